/-
  The statement FnDropAll is proved: for each argument the law returns true; nothing is assumed.
-/
import Derived.Test.YtccjkhnefiikaaaGreatDoorFnDropAllAllB
import Derived.Shelf.Strconv.Atoi
import Derived.Shelf.Strconv.Itoa0
import Derived.Shelf.Strconv.Itoa1
import Derived.Shelf.LaysM
import Derived.Shelf.Strconv.Itoa2
import Derived.Shelf.Strconv.Itoa3
import Derived.Shelf.Strconv.AtoiErrFast
import Derived.Shelf.Strconv.ParseIntEmpty
import Derived.Shelf.Strconv.AtoiFail
import Derived.Shelf.Strconv.Clone
import Derived.Shelf.Strconv.SyntaxError
import Derived.Shelf.LaysC
import Derived.Shelf.Strconv.ToError
import Derived.Shelf.Strconv.Lower
import Derived.Shelf.Strconv.ParseUint10
import Derived.Shelf.Strconv.ParseUint10Empty
import Derived.Shelf.Strconv.ParseUint10Any
import Derived.Shelf.Strconv.ParseInt10
import Derived.Shelf.Strconv.AtoiLong
import Derived.Shelf.Strconv.AtoiInnerAll
import Derived.Shelf.Strconv.RangeError
import Derived.Shelf.Strconv.ToErrorRange
import Derived.Shelf.Strconv.AtoiAll
import Derived.Shelf.Strconv.ErrVarAll
import Derived.Test.YtccjkhnefiikaaaGreatDoorProg
import Derived.LaidSub
import Derived.MakeChecks
import Derived.Lib.AtoiErrMem
import Derived.Test.YtccjkhnefiikaaaGreatDoorSxDataV
import Derived.Lib.AtoiAllCases
/-! .. the write below, and the slot filled. -/
namespace Go.Sx
open Go
theorem wrK_step {L W n q : Nat} {l1 l2 : List Bk} {R : List V} {j : Nat} {k : Ky} {u x : V} {r : List Ky} (t : Took L W n q l1 l2 R j k u x) (hq : q ≤ W) (hk : keyOk k = true) (hL : L + r.length < 1024)
    (ih : ∀ a, a ≤ q → wOf l2 u a → WrK L W n a r l2 (hnd j :: R) u x (wrH r l2 u false x)) :
    Cnt (isFew (L + (r.length + 1))) (W + n + (r.length + 1)) (setT (wrH r l1 u false x).1 j k (wrH r l1 u false x).2) (hnd j :: R) ∧
    (∃ m, m ≤ q + n + (r.length + 1) ∧ wOf (setT (wrH r l1 u false x).1 j k (wrH r l1 u false x).2) (hnd j) m) ∧
    (∀ u' ∈ R, ∀ a, wOf l1 u' a → wOf (setT (wrH r l1 u false x).1 j k (wrH r l1 u false x).2) u' a) ∧
    (setT (wrH r l1 u false x).1 j k (wrH r l1 u false x).2).length ≤ l1.length + r.length ∧
    ∀ (P : Nat → Prop) (g0 g : Nat → Bk) (l1' : List Bk), Agr P g0 g l1 l1' → ¬ P j → (∀ i, P i → hnd i ∈ R) → (∀ i, P i → (g i).tab.slots.length = (g0 i).tab.slots.length) →
      Agr P g0 g (setT (wrH r l1 u false x).1 j k (wrH r l1 u false x).2) (setT (wrH r l1' u false x).1 j k (wrH r l1' u false x).2) := by
  obtain ⟨m0, a, e0, p0, w0, w1⟩ := t.wt
  have a1 := wOf_pos w1
  obtain ⟨i1, ⟨my, e2, wy⟩, i3, i4, i5, i6⟩ := ih a (by omega) w1
  have key : ∀ (P : Nat → Prop) (g0 g : Nat → Bk) (l' : List Bk), Agr P g0 g l1 l' → ¬ P j → (∀ i, P i → hnd i ∈ R) → (∀ i, P i → (g i).tab.slots.length = (g0 i).tab.slots.length) →
      (wrH r l' u false x).2 = (wrH r l2 u false x).2 ∧ (wrH r l' u false x).1.length = (wrH r l2 u false x).1.length ∧ blk (wrH r l' u false x).1 j = blk l1 j ∧ blk (wrH r l2 u false x).1 j = blk l2 j ∧
      (∀ i, ¬ i = j → ¬ P i → blk (wrH r l' u false x).1 i = blk (wrH r l2 u false x).1 i) ∧ ∀ i, P i → (blk (wrH r l2 u false x).1 i).count = 1 ∧ (blk (wrH r l' u false x).1 i).count = 1 ∧ blk (wrH r l2 u false x).1 i = g0 i ∧ blk (wrH r l' u false x).1 i = g i := by
    intro P g0 g l' ag hP hm hs
    have hne : ∀ i, P i → ¬ i = j := fun i hi e => hP (e ▸ hi)
    have A : Agr (fun i => P i ∨ i = j) (fun i => if i = j then blk l2 j else g0 i) (fun i => if i = j then blk l1 j else g i) l2 l' := by
      refine ⟨by rw [ag.len, t.len], fun i hi => ?_, fun i hi => ?_⟩
      · rw [ag.out i fun p => hi (.inl p), t.out i fun e => hi (.inr e)]
      · by_cases e : i = j
        · subst e
          rw [if_pos rfl, if_pos rfl, ag.out i hP]
          exact ⟨t.one, t.one1, rfl, rfl⟩
        · rw [if_neg e, if_neg e, t.out i e]
          rcases hi with hi | hi
          · exact ag.one i hi
          · exact absurd hi e
    obtain ⟨B, eB⟩ := i6 _ _ _ _ A (fun i hi => by
      rcases hi with hi | hi
      · exact List.mem_cons_of_mem _ (hm i hi)
      · rw [hi]; simp) (fun i hi => by
      by_cases e : i = j
      · rw [if_pos e, if_pos e]
        exact t.slots
      · rw [if_neg e, if_neg e]
        rcases hi with hi | hi
        · exact hs i hi
        · exact absurd hi e)
    have hj := B.one j (.inr rfl)
    rw [if_pos rfl, if_pos rfl] at hj
    refine ⟨eB, B.len, hj.2.2.2, hj.2.2.1, fun i hi hp => B.out i fun o => ?_, fun i hi => ?_⟩
    · rcases o with o | o
      · exact hp o
      · exact hi o
    · have := B.one i (.inl hi)
      rw [if_neg (hne i hi), if_neg (hne i hi)] at this
      exact this
  obtain ⟨k1, k2, k3, k4, k5, _⟩ := key (fun _ => False) (fun _ => bk0) (fun _ => bk0) l1 ⟨rfl, fun _ _ => rfl, fun _ h => h.elim⟩ (fun h => h) (fun _ h => h.elim) (fun _ h => h.elim)
  have same : ∀ {l' : List Bk} (y : V), blk l' j = blk l1 j → setT l' j k y = l'.set j ((blk l2 j).withT ((blk l2 j).tab.put k y)) := fun {l'} y e => by
    unfold setT
    rw [e, t.same]
  have s3 : ∀ y, setT (wrH r l2 u false x).1 j k y = (wrH r l2 u false x).1.set j ((blk l2 j).withT ((blk l2 j).tab.put k y)) := fun y => by
    unfold setT
    rw [k4]
  have E : setT (wrH r l1 u false x).1 j k (wrH r l1 u false x).2 = setT (wrH r l2 u false x).1 j k (wrH r l2 u false x).2 := by
    rw [same _ k3, k1, s3]
    exact set_ext _ k2 fun i hi => k5 i hi fun h => h
  rw [E]
  have lt3 : j < (wrH r l2 u false x).1.length := frame_lt i1 (by simp)
  have c3 : (blk (wrH r l2 u false x).1 j).count = 1 := by rw [k4]; exact t.one
  have i1' : Cnt (isFew (L + (r.length + 1))) (W + n + r.length) (wrH r l2 u false x).1 ((wrH r l2 u false x).2 :: hnd j :: R) := i1.mono (fun t h => h.up (by omega)) (Nat.le_refl _)
  have f3 := own_few i1 lt3 c3
  have m3 : Wt (wrH r l2 u false x).1 j m0 := wOf_hnd.1 (i3 _ (by simp) _ (wOf_hnd.2 w0))
  obtain ⟨z1, ⟨mz, z2, z3⟩, z4⟩ := cnt_setT (W' := W + n + (r.length + 1)) (k := k) i1' lt3 c3 (fun i s hi hs => by
      rw [k4] at hi hs
      exact t.old i s hi hs) (by
      have := f3.put (k := k) (by omega) hk i4
      exact this) m3 wy (by omega) (by omega)
  have ln : (setT (wrH r l2 u false x).1 j k (wrH r l2 u false x).2).length = (wrH r l2 u false x).1.length := setT_len _ _ _ _
  refine ⟨z1, ⟨mz, by omega, wOf_hnd.2 z3⟩, fun w hw b hb => ?_, ?_, fun P g0 g l1' ag hP hm hs => ?_⟩
  · have hb := i3 w (by simp [hw]) b (t.keep w hw b hb)
    unfold wOf at hb ⊢
    by_cases h5 : w.kind = 5
    · rw [if_pos h5] at hb ⊢
      have per := i1.perm (List.Perm.swap (hnd j) _ R)
      exact z4 _ (one_ne per lt3 c3 w (by simp [hw]) h5) (refIn_of i1 (v := w) (by simp [hw]) h5).2 _ hb
    · rw [if_neg h5] at hb ⊢
      exact hb
  · have := t.len
    omega
  · obtain ⟨q1, q2, q3, _, q5, q6⟩ := key P g0 g l1' ag hP hm hs
    rw [same _ q3, q1, s3]
    have lt' : j < (wrH r l1' u false x).1.length := by omega
    refine ⟨by rw [List.length_set, List.length_set, q2], fun i hi => ?_, fun i hi => ?_⟩
    · by_cases e : i = j
      · subst e
        rw [blk_set_same lt3, blk_set_same lt']
      · rw [blk_set_ne (fun q => e q.symm), blk_set_ne (fun q => e q.symm)]
        exact q5 i e hi
    · have e : ¬ i = j := fun e => hP (e ▸ hi)
      rw [blk_set_ne (fun q => e q.symm), blk_set_ne (fun q => e q.symm)]
      exact q6 i hi
theorem cnt_wr : ∀ (p : List Ky) {L W n q : Nat} (l : List Bk) (R : List V) (v x : V), Cnt (isFew L) W l (v :: x :: R) → (∀ k ∈ p, keyOk k = true) → L + p.length < 1024 → wOf l x n → x.bulk ≤ 16 → wOf l v q → q ≤ W → 1 ≤ W →
    R.length + p.length + 1024 * (l.length + p.length) ≤ 900000000000 → WrK L W n q p l R v x (wrH p l v false x)
  | [], L, W, n, q, l, R, v, x, h, _, _, hx, hb, _, _, _, _ => wrK_nil h hx hb
  | k :: r, L, W, n, q, l, R, v, x, h, hk, hL, hx, hb, hv, hqW, hW, hn => by
    rw [List.length_cons] at hL hn
    have hbo : (v :: (x :: R) ++ refsB l).length + (blk l v.num.toNat).tab.slots.length ≤ 1000000000000 := by
      have h1 := refsB_le h
      have h2 := (few_blk h v.num.toNat).1
      have h3 : l.length * L ≤ l.length * 1024 := Nat.mul_le_mul_left _ (by omega)
      simp only [List.cons_append, List.length_cons, List.length_append]
      omega
    obtain ⟨o1, o2⟩ := cnt_own h (isFew_tb0 L) hW hbo
    obtain ⟨o3, o4⟩ := own_weigh h (isFew_tb0 L) hW hbo hv
    have oln : (ownH l v).1.length ≤ l.length + 1 := by
      unfold ownH
      split
      · split
        · exact Nat.le_succ _
        · have := (allocH_len (splitH l v.num.toNat) (blk l v.num.toNat).tab).2.1
          rw [splitH_len] at this
          exact this
      · exact (allocH_len l tb0).2.1
    obtain ⟨l2, t⟩ := took k o1 o2 (wOf_hnd.1 o3) (o4 x (by simp) n hx)
    have hl2 := t.len
    obtain ⟨s1, s2, s3, s4, s5⟩ := wrK_step (r := r) t hqW (hk k (by simp)) (by omega) fun a ha wa => cnt_wr r l2 (hnd (ownH l v).2 :: R) _ x t.cnt (fun k' hk' => hk k' (by simp [hk'])) (by omega) t.wx hb wa (by omega) hW (by rw [List.length_cons]; omega)
    rw [wrH_cons]
    refine ⟨s1, s2, fun u hu a ha => s3 u hu a (o4 u (by simp [hu]) a ha), Nat.zero_le _, by rw [List.length_cons]; show (setT _ _ _ _).length ≤ _; omega, fun P g0 g l' ag hm hs => ?_⟩
    rw [wrH_cons]
    obtain ⟨a1, a2, a3⟩ := ag.own (R := x :: R) h fun i hi => by simp [hm i hi]
    rw [a2, a1.inner a3]
    exact ⟨s5 P g0 g _ a1 a3 hm hs, rfl⟩
end Go.Sx
/-! Values as they are drawn, and how they are stored. -/
namespace Go.Sx
open Go
def plainV (v : V) : Prop := v.wf = true ∧ ¬ v.kind = 4 ∧ v.bulk ≤ 16
def drawnV : Nat → V → Prop
  | 0, v => plainV v
  | d + 1, v => plainV v ∨ (v.kind = 4 ∧ v.wf = true ∧ v.items.length ≤ 4 ∧ ∀ e ∈ v.items, drawnV d e.2)
theorem drawnV.plain {v : V} (h : plainV v) : ∀ d, drawnV d v
  | 0 => h
  | _ + 1 => .inl h
theorem drawnV.wf {v : V} : ∀ {d : Nat}, drawnV d v → v.wf = true
  | 0, h => h.1
  | _ + 1, .inl h => h.1
  | _ + 1, .inr h => h.2.1
def wD : Nat → Nat
  | 0 => 1
  | d + 1 => 1 + 4 * wD d
def aD : Nat → Nat
  | 0 => 0
  | d + 1 => 1 + 4 * aD d
theorem wD_pos : ∀ d, 1 ≤ wD d
  | 0 => Nat.le_refl _
  | d + 1 => by unfold wD; omega
theorem plain_weight {v : V} (h : plainV v) : v.weight = 1 := by rw [V.weight_eq, if_neg h.2.1]
theorem weights_le {M : Nat} : ∀ (es : List (Ky × V)), (∀ e ∈ es, e.2.weight ≤ M) → V.weights es ≤ es.length * M
  | [], _ => by rw [V.weights_nil]; exact Nat.zero_le _
  | e :: r, h => by
    have ih := weights_le r fun u hu => h u (by simp [hu])
    have := h e (by simp)
    rw [V.weights_cons, List.length_cons, Nat.succ_mul]
    omega
theorem drawnV.weight : ∀ {d : Nat} {v : V}, drawnV d v → v.weight ≤ wD d
  | 0, v, h => by rw [plain_weight h]; exact Nat.le_refl _
  | d + 1, v, .inl h => by rw [plain_weight h]; exact wD_pos _
  | d + 1, v, .inr h => by
    obtain ⟨h4, _, hl, he⟩ := h
    rw [V.weight_eq, if_pos h4]
    have := weights_le v.items fun e he' => drawnV.weight (he e he')
    have h2 : v.items.length * wD d ≤ 4 * wD d := Nat.mul_le_mul_right _ hl
    unfold wD
    omega
/-- what storing a drawn value makes -/
def StoK (L W A : Nat) (l : List Bk) (R : List V) (v : V) (w : List Bk × V) : Prop :=
  Cnt (isFew L) W w.1 (w.2 :: R) ∧ wOf w.1 w.2 v.weight ∧ (∀ u ∈ R, ∀ n, wOf l u n → wOf w.1 u n) ∧ w.2.bulk ≤ 16 ∧ w.1.length ≤ l.length + A
theorem stoK_plain {L W A : Nat} {l : List Bk} {R : List V} {v : V} (h : Cnt (isFew L) W l R) (p : plainV v) : StoK L W A l R v (sto v l) := by
  have h5 := wf_kind5 p.1
  rw [sto_other p.2.1]
  refine ⟨h.add h5 ?_, ?_, fun u _ m hm => hm, p.2.2, Nat.le_add_right _ _⟩
  · unfold held0
    rw [if_neg h5]
    exact ⟨p.2.1, p.1⟩
  · unfold wOf
    rw [if_neg h5]
    exact plain_weight p
theorem stoKE {L W A d : Nat} (hL : 4 ≤ L) (hL2 : L < 1024) (hW : wD d ≤ W) (ih : ∀ (v : V), drawnV d v → ∀ (l : List Bk) (R : List V), Cnt (isFew L) W l R → StoK L W A l R v (sto v l)) :
    ∀ (es : List (Ky × V)) (l : List Bk) (t : Tb) (R : List V) (seen : List Ky) (x : Int) (m : Nat), (∀ e ∈ es, drawnV d e.2) → Cnt (isFew L) W l (refsS t.slots ++ R) → t.wf → wfEs x es seen = true → (∀ s ∈ t.slots, s.live = true → s.key ∈ seen) →
    t.slots.length + es.length ≤ 4 → (∀ s ∈ t.slots, s.val.bulk ≤ 16) → t.next ≤ x → x ≤ 1000000001 → SumL l (refsS t.slots) m →
    Cnt (isFew L) W (stoE es l t).1 (refsS (stoE es l t).2.slots ++ R) ∧ (stoE es l t).2.wf ∧ (stoE es l t).2.next ≤ x ∧ SumL (stoE es l t).1 (refsS (stoE es l t).2.slots) (m + V.weights es) ∧ (∀ u ∈ R, ∀ n, wOf l u n → wOf (stoE es l t).1 u n) ∧
      (stoE es l t).2.slots.length ≤ 4 ∧ (∀ s ∈ (stoE es l t).2.slots, s.val.bulk ≤ 16) ∧ (stoE es l t).1.length ≤ l.length + es.length * A
  | [], l, t, R, seen, x, m, _, h, w, _, _, hl, hb, hn, _, hs => by
    rw [stoE_nil]
    rw [List.length_nil] at hl
    exact ⟨h, w, hn, by rw [V.weights_nil]; exact hs, fun u _ n hu => hu, by omega, hb, Nat.le_add_right _ _⟩
  | (k, v) :: r, l, t, R, seen, x, m, hd, h, w, he, hk, hl, hb, hn, hx, hs => by
    rw [wfEs_cons] at he
    simp only [Bool.and_eq_true, Bool.not_eq_true', decide_eq_false_iff_not] at he
    obtain ⟨e1, e2, e3, e4, e5⟩ := he
    rw [V.weights_cons]
    rw [List.length_cons] at hl
    have hlv := liveN_le t.slots
    obtain ⟨a1, a2, a3, a4, a5⟩ := ih v (hd (k, v) (by simp)) l (refsS t.slots ++ R) h
    have hf : t.find k = none := by
      cases hq : t.find k with
      | none => rfl
      | some j =>
        obtain ⟨s, b1, b2, b3⟩ := Tb.find_key w.ch hq
        exact absurd (b3 ▸ hk s (List.mem_of_getElem? b1) b2) e2
    obtain ⟨p1, p2⟩ := put_new_next w (by omega) hf (sto v l).2
    have pr := put_new hf (sto v l).2
    obtain ⟨pf1, pf2⟩ := put_new_few hf (sto v l).2
    have hnum : k.text = true ∨ k.num < x := by
      cases hkt : k.text with
      | true => exact .inl rfl
      | false =>
        rw [hkt] at e3
        simp at e3
        exact .inr (by omega)
    have per : ((sto v l).2 :: (refsS t.slots ++ R)).Perm (refsS (t.put k (sto v l).2).slots ++ R) := by
      rw [pr, List.append_assoc]
      exact (List.perm_middle (a := (sto v l).2) (l₁ := refsS t.slots) (l₂ := R)).symm
    rw [stoE_cons]
    obtain ⟨c1, c2, c3, c4, c5, c6, c7, c8⟩ := stoKE hL hL2 hW ih r (sto v l).1 (t.put k (sto v l).2) R (seen ++ [k]) x (m + v.weight) (fun e he => hd e (by simp [he])) (a1.perm per) (w.put _ e1 fun _ => by omega) e5 (fun s hs hv => by
      rcases p2 s hs hv with q | ⟨u, q1, q2, q3⟩
      · simp [q]
      · have := hk u q1 q2
        rw [← q3]
        simp [this]) (by omega) (fun s hs => by
      rcases pf2 s hs with q | ⟨u, hu, q⟩
      · rw [q]; exact a4
      · rw [q]; exact hb u hu) (by
      rw [p1]
      rcases hnum with q | q
      · rw [if_pos q]; exact hn
      · split
        · exact hn
        · omega) hx (by
      rw [pr]
      refine sumL_append (sumL_keep (fun u hu => a3 u (by simp [hu])) hs) ⟨v.weight, 0, a2, rfl, by omega⟩)
    refine ⟨c1, c2, c3, ?_, fun u hu n hn => c5 u hu n (a3 u (by simp [hu]) n hn), c6, c7, ?_⟩
    · have e : m + v.weight + V.weights r = m + ((k, v).2.weight + V.weights r) := by show _ = m + (v.weight + V.weights r); omega
      rw [← e]
      exact c4
    · rw [List.length_cons, Nat.succ_mul]
      have c8 : (stoE r (sto (k, v).snd l).fst (t.put (k, v).fst (sto (k, v).snd l).snd)).fst.length ≤ (sto v l).1.length + r.length * A := c8
      omega
theorem stoK {L W : Nat} (hL : 4 ≤ L) (hL2 : L < 1024) : ∀ (d : Nat), wD d ≤ W → ∀ (v : V), drawnV d v → ∀ (l : List Bk) (R : List V), Cnt (isFew L) W l R → StoK L W (aD d) l R v (sto v l)
  | 0, _, v, p, l, R, h => stoK_plain h p
  | d + 1, hW, v, .inl p, l, R, h => stoK_plain h p
  | d + 1, hW, v, .inr ⟨h4, hw, hl, he⟩, l, R, h => by
    have hW' : 1 + 4 * wD d ≤ W := hW
    have ih := fun v hv l R h => stoK (W := W) hL hL2 d (show wD d ≤ W by omega) v hv l R h
    obtain ⟨w1, w0, w2⟩ := wf_arrs hw h4
    obtain ⟨c, tw, tn, sm, kp, c6, c7, c8⟩ := stoKE (W := W) (d := d) (A := aD d) hL hL2 (by omega) ih v.items l tb0 R [] v.next 0 he (by simpa [tb0, refsS] using h) tb0_wf w2 (fun s hs => by cases hs) (by show 0 + v.items.length ≤ 4; omega) (fun s hs => by cases hs) w0 w1 rfl
    have hwe : v.weight = 1 + V.weights v.items := by rw [V.weight_eq, if_pos h4]
    have hwd := (drawnV.weight (d := d + 1) (v := v) (.inr ⟨h4, hw, hl, he⟩))
    have hwd : v.weight ≤ 1 + 4 * wD d := hwd
    rw [sto_arr h4]
    have sm' : SumR (stoE v.items l tb0).1 ((stoE v.items l tb0).2.withN v.next).slots (V.weights v.items) := sumR_of (by rw [Nat.zero_add] at sm; exact sm)
    have few : isFew L ((stoE v.items l tb0).2.withN v.next) := ⟨(Tb.isTab_iff _).2 (tw.withNext tn w1), by show (stoE v.items l tb0).2.slots.length ≤ L; omega, c7⟩
    obtain ⟨q1, q2, q3⟩ := Cnt.alloc (t := (stoE v.items l tb0).2.withN v.next) c few (show V.weights v.items + 1 ≤ W by omega) sm' (by decide)
    refine ⟨q1, ?_, fun u hu m hm => ?_, Nat.zero_le _, ?_⟩
    · show wOf _ (hnd _) _
      rw [hwe, Nat.add_comm]
      exact wOf_hnd.2 q2
    · have hm := kp u hu m hm
      unfold wOf at hm ⊢
      by_cases h5 : u.kind = 5
      · rw [if_pos h5] at hm ⊢
        obtain ⟨r1, r2⟩ := ref_used c (u := u) (by simp [hu]) h5
        exact q3 _ r1 r2 m hm
      · rw [if_neg h5] at hm ⊢
        exact hm
    · have := (allocH_len (stoE v.items l tb0).1 ((stoE v.items l tb0).2.withN v.next)).2.1
      have h2 : v.items.length * aD d ≤ 4 * aD d := Nat.mul_le_mul_right _ hl
      show _ ≤ l.length + (1 + 4 * aD d)
      show (allocH _ _).length ≤ _
      omega
end Go.Sx
/-! What a write into a shared heap needs. -/
namespace Go.Sx
open Go
theorem gsum_le {α : Type} {w : α → Nat} {M : Nat} : ∀ {l : List α}, (∀ a ∈ l, w a ≤ M) → gsum w l ≤ l.length * M
  | [], _ => by simp [gsum]
  | a :: r, h => by
    have h1 := h a (by simp)
    have h2 := gsum_le (w := w) (M := M) (l := r) fun b hb => h b (by simp [hb])
    have e : gsum w (a :: r) = w a + gsum w r := by simp [gsum]
    rw [e, List.length_cons, Nat.add_mul]
    omega
theorem sInv.slots {c : Int} {L B : Nat} {l : List Bk} (h : sInv c L B l) : slotsN l ≤ l.length * 1024 := gsum_le fun b hb => by
  obtain ⟨i, hi⟩ := List.getElem?_of_mem hb
  exact (h.ch i b hi).len
/-- a value as a heap holds it -/
def Hv (v : V) : Prop := v.items = [] ∧ (v.kind = 5 → v = hnd v.num.toNat)
theorem held_hv {l : List Bk} {v : V} (h : isHeld l v = true) : Hv v := ⟨(held_items h).1, fun k => by
  have e := held_form h k
  have n := (held_num h k).1
  rw [e]
  unfold hnd
  congr 1
  exact (Int.toNat_of_nonneg n).symm⟩
theorem hnd_num (i : Nat) : (hnd i).num = (i : Nat) := rfl
theorem hv_zero : Hv V.zero := ⟨rfl, fun h => absurd h (by decide)⟩
theorem inner_hv {l : List Bk} (h : inR l) (v : V) (k : Ky) : Hv (inner0 l v k) := by
  unfold inner0
  split
  · cases hf : (blk l v.num.toNat).tab.find k with
    | some j =>
      obtain ⟨s, hs, hl⟩ := Tb.find_live hf
      rw [innerH_some hf hs]
      by_cases hi : v.num.toNat < l.length
      · exact held_hv (h _ _ (blk_at hi) j s hs hl)
      · rw [blk_out (by omega)] at hs
        simp [bk0] at hs
    | none =>
      rw [innerH_none hf]
      exact hv_zero
  · exact hv_zero
theorem push_ok {l0 : List Bk} (hC : allCh l0) {v : V} (po : v.kind = 0 ∨ (v.kind = 5 ∧ (blk l0 v.num.toNat).tab.next ≤ 1000000000)) : keyOk ⟨false, (tab0 l0 v).next, ⟨#[]⟩⟩ = true := by
  have hn : 0 ≤ (tab0 l0 v).next ∧ (tab0 l0 v).next ≤ 1000000000 := by
    unfold tab0
    rcases po with h0 | ⟨h5, hn⟩
    · rw [if_neg (by omega)]
      exact ⟨Int.le_refl _, by decide⟩
    · rw [if_pos h5]
      exact ⟨((hC.blk v.num.toNat).next).1, hn⟩
  exact push_key hn.1 hn.2
section
variable {l : List Bk} {rs : List V} {i j : Int} {p : List Ky} {push : Bool}
end
section
variable {P : Program} {h0 h : Hp} {K : Value → Hp → Prop} {bag : Bag}
/-- an own row of nothing has no room -/
theorem My.cap0 {z : Nat} {a : Option Addr} {n : Nat} (m : My h0 h ((.row z [], .slice a 0 n) :: bag)) : n = 0 := by
  obtain ⟨B1, B2, l1, _⟩ := My.cons_iff.1 m
  simp only [Ow] at l1
  obtain ⟨xs, C1, C2, o1, o2, rfl⟩ := l1
  cases o1 with
  | nil => rfl
  | row hb hn hm hz hl ht h1 hp => omega
theorem My.noitems {x : V} (m : My h0 h bag) (hx : x.items = []) (a : Option Addr) : My h0 h ((.row 8 (x.items.flatMap edt), .slice a x.items.length 0) :: bag) := by
  rw [hx]
  exact m.nilrow
theorem val_zip (w : V) {sl : Value} (m : My h0 h ((.row 8 (w.items.flatMap edt), sl) :: bag)) : My h0 h (w.dt.zip [.int .i64 w.kind, .int .i64 w.num, .string w.str, .int .i64 w.next, sl] ++ bag) := by
  rw [V.dt_eq]
  simp only [List.zip_cons_cons, List.zip_nil_right, List.cons_append, List.nil_append, My.raw_iff, one_int, one_str, and_self, true_and]
  exact m
/-- a heap's table is opened: its rows are taken out -/
theorem tab_at {l : List Bk} {b cap i : Nat} (hi : i < l.length) (m : My h0 h ((.row 6 (l.flatMap Bk.dt), .slice (some ⟨b, 0, none⟩) l.length cap) :: bag)) : ∃ c a n a' n',
    My h0 h ((.row 1 ((blk l i).tab.heads.flatMap idt), .slice a (blk l i).tab.heads.length n) :: (.row 10 ((blk l i).tab.slots.flatMap Sl.dt), .slice a' (blk l i).tab.slots.length n') :: (c (traws (blk l i).tab (.slice a (blk l i).tab.heads.length n) (.slice a' (blk l i).tab.slots.length n')), .slice (some ⟨b, 0, none⟩) l.length cap) :: bag) ∧
    Hold c (.slice (some ⟨b, 0, none⟩) l.length cap) b (i * 6 + 1) ∧ ∀ t : Tb, c t.dt = .row 6 ((l.set i ((blk l i).withT t)).flatMap Bk.dt) := by
  obtain ⟨c, hd, hc⟩ := hold_btab (b := b) (cap := cap) hi
  have m1 : My h0 h ((c (blk l i).tab.dt, .slice (some ⟨b, 0, none⟩) l.length cap) :: bag) := by
    rw [hc, withT_self, set_blk hi]
    exact m
  obtain ⟨a, n, a', n', m2⟩ := tb_open hd m1
  exact ⟨c, a, n, a', n', m2, hd, hc⟩
/-- the value of a slot, its items none -/
theorem slot_ld {ss : List Sl} {j : Nat} {s : Sl} {b cap : Nat} (hs : ss[j]? = some s) (hi : s.val.items = []) (m : My h0 h ((.row 10 (ss.flatMap Sl.dt), .slice (some ⟨b, 0, none⟩) ss.length cap) :: bag)) :
    ∃ a, ∀ (t i : Nat) (K : Value → Hp → Prop), tyS P t = some (true, 5) → i = j * 10 + 3 → K (.agg #[.int .i64 s.val.kind, .int .i64 s.val.num, .string s.val.str, .int .i64 s.val.next, .slice a 0 0]) h → HPure P (ldI t (.pointer (some ⟨b, i, none⟩))) h K := by
  obtain ⟨f1, f2⟩ := fm_split Sl.dt_len hs
  rw [f1] at m
  obtain ⟨a, n, m1⟩ := slot_open m
  rw [hi] at m1
  have hn : n = 0 := My.cap0 (z := 8) (by simpa using m1)
  subst hn
  have hl := lt_of_get hs
  refine ⟨a, fun t i K ht hj k => hsem_srwV ht m1.drop (by omega) (by rw [f2]; exact hj) k⟩
/-- a value whose items are taken out -/
def vrw (v : V) (u : Value) : List Value := [.int .i64 v.kind, .int .i64 v.num, .string v.str, .int .i64 v.next, u]
/-- values that lie in memory: where one has no items, its slice has no room -/
def CapR (h : Hp) (rs : List V) (u : Value) : Prop := ∀ (i : Nat) (v : V), rs[i]? = some v → v.items = [] → ∃ a, Rd h (.row 5 ((rs.take i).flatMap V.dt ++ ((vrw v (.slice a 0 0)).map .raw ++ (rs.drop (i + 1)).flatMap V.dt))) u
theorem CapR.mono {h' : Hp} {rs : List V} {u : Value} (c : CapR h rs u) (e : Ext h h') : CapR h' rs u := fun i v hi h0 => by
  obtain ⟨a, r⟩ := c i v hi h0
  exact ⟨a, r.mono e⟩
theorem My.cap {rs : List V} {u : Value} (m : My h0 h ((.row 5 (rs.flatMap V.dt), u) :: bag)) : CapR h rs u := fun i v hi hz => by
  obtain ⟨f1, f2⟩ := fm_split V.dt_len hi
  rw [f1, V.dt_eq] at m
  obtain ⟨w, m1⟩ := m.openAt (j := 4) rfl
  obtain ⟨a, n, rfl, _⟩ := m1.row_shape (by decide) v.items.length (fm_len edt_len _)
  rw [hz] at m1
  have hn : n = 0 := My.cap0 (z := 8) (by simpa using m1)
  subst hn
  exact ⟨a, m1.drop.rd⟩
theorem CapR.ld {rs : List V} {i b o len cap : Nat} {v : V} (c : CapR h rs (.slice (some ⟨b, o, none⟩) len cap)) (hi : rs[i]? = some v) (hz : v.items = []) :
    ∃ a, ∀ (t j : Nat) (K : Value → Hp → Prop), tyS P t = some (true, 5) → j = o + i * 5 → K (.agg #[.int .i64 v.kind, .int .i64 v.num, .string v.str, .int .i64 v.next, .slice a 0 0]) h → HPure P (ldI t (.pointer (some ⟨b, j, none⟩))) h K := by
  obtain ⟨a, r⟩ := c i v hi hz
  have hl := lt_of_get hi
  obtain ⟨f1, f2⟩ := fm_split V.dt_len hi
  have hlen : ((rs.take i).flatMap V.dt ++ ((vrw v (.slice a 0 0)).map Dt.raw ++ (rs.drop (i + 1)).flatMap V.dt)).length = rs.length * 5 := by
    rw [List.length_append, f2, List.length_append, fm_len V.dt_len, List.length_drop]
    show i * 5 + (5 + _) = _
    omega
  refine ⟨a, fun t j K ht hj k => ?_⟩
  obtain ⟨a', c', xs, e, _, hr, hat⟩ := r.rows (by decide) rs.length hlen
  cases e
  obtain ⟨b', o', e2, hat⟩ := hat (by omega)
  cases e2
  refine hsem_getN ht hat hr (i := i * 5) (ds := (vrw v (.slice a 0 0)).map .raw) ?_ rfl hj fun ys q => ?_
  · rw [← f2, List.drop_left]
    rfl
  · rw [q.of_raws]
    exact k
end
section
variable {P : Program} {hm : List Nat} {l : List Oper} {K : Fr → Bx → Hp → Prop} {fr : Fr} {bx : Bx} {h : Hp}
end
end Go.Sx
/-! A counted heap: loads, paths. -/
namespace Go.Sx
open Go
/-- what is used is right -/
def usedOk (l : List Bk) : Prop := inR l ∧ ∀ i, i < l.length → 0 < (blk l i).count → (blk l i).tab.wf
theorem get_ld2 {l : List Bk} (h : usedOk l) {f : Nat} {v : V} (w : weighed l (f + 1) v) (h5 : v.kind = 5) (k : Ky) : ((ldF l (f + 1) v).get k).getD V.null = ldF l f (innerH l v.num.toNat k) := by
  obtain ⟨q1, q2, q3⟩ := held_num w.1 h5
  have wt := h.2 _ q2 q3
  rw [ldF_handle h5]
  have hfind : (⟨4, 0, ⟨#[]⟩, (blk l v.num.toNat).tab.next, ldS (ldF l f) (blk l v.num.toNat).tab.slots⟩ : V).find k = fk (ldS (ldF l f) (blk l v.num.toNat).tab.slots) k 0 := rfl
  cases hf : (blk l v.num.toNat).tab.find k with
  | some j =>
    obtain ⟨s, hs, hl, hk⟩ := Tb.find_key wt.ch hf
    have hm : (k, ldF l f s.val) ∈ ldS (ldF l f) (blk l v.num.toNat).tab.slots := by
      unfold ldS
      simp only [List.mem_map, List.mem_filter]
      exact ⟨s, ⟨List.mem_of_getElem? hs, hl⟩, by rw [hk]⟩
    obtain ⟨i, h1, h2⟩ := fk_nodup (by rw [ldS_keys]; exact wt.keys_once) hm 0
    rw [innerH_some hf hs]
    unfold V.get
    rw [hfind, h1]
    show (Option.bind (some (0 + i)) fun i => ((ldS (ldF l f) (blk l v.num.toNat).tab.slots)[i]?).map (·.2)).getD V.null = _
    rw [Nat.zero_add, Option.bind_some, h2]
    rfl
  | none =>
    have hno : k ∉ (ldS (ldF l f) (blk l v.num.toNat).tab.slots).map (·.1) := by
      rw [ldS_keys]
      intro hm
      unfold liveK at hm
      simp only [List.mem_map, List.mem_filter] at hm
      obtain ⟨s, ⟨hs, hl⟩, hk⟩ := hm
      exact wt.find_none hf s hs hl hk
    have := (fk_first (ldS (ldF l f) (blk l v.num.toNat).tab.slots) k 0).2 hno
    rw [innerH_none hf]
    unfold V.get
    rw [hfind, this]
    show V.null = ldF l f V.zero
    rw [ldF_other (by decide)]
    rfl
theorem weighed.inner2 {l : List Bk} (h : usedOk l) {f : Nat} {v : V} (w : weighed l (f + 1) v) (k : Ky) : weighed l f (inner0 l v k) := by
  unfold inner0
  split
  · rename_i h5
    cases hf : (blk l v.num.toNat).tab.find k with
    | some j =>
      obtain ⟨s, hs, hl⟩ := Tb.find_live hf
      rw [innerH_some hf hs]
      exact w.kids h.1 h5 j s hs hl
    | none =>
      rw [innerH_none hf]
      exact weighed.zero l f
  · exact weighed.zero l f
theorem pathOk_of2 {l : List Bk} (h : usedOk l) (push : Bool) (y : V) : ∀ (p : List Ky) (f : Nat) (v : V), weighed l f v → ((ldF l f v).put p push y).2 = 0 → pathOk l p v push
  | [], f, v, w, hp => by
    intro hq
    subst hq
    rw [V.put_nil_t] at hp
    split at hp
    · simp at hp
    · rename_i hk
      rcases ld_kind w hk with h0 | h5
      · exact .inl h0
      · refine .inr ⟨h5, ?_⟩
        split at hp
        · simp at hp
        · rename_i hn
          cases f with
          | zero =>
            obtain ⟨n, hn⟩ := w.2 h5
            cases hn
          | succ f =>
            have e : (ldF l (f + 1) v).asArr = ldF l (f + 1) v := V.asArr_other (by rw [ldF_handle h5]; show ¬ (4 : Int) = 0; decide)
            rw [e, ldF_handle h5] at hn
            have hn : ¬ ¬ (0 ≤ (blk l v.num.toNat).tab.next ∧ (blk l v.num.toNat).tab.next ≤ 1000000000) := hn
            omega
  | k :: r, f, v, w, hp => by
    rw [V.put_cons] at hp
    split at hp
    · simp at hp
    · rename_i hk
      refine ⟨ld_kind w hk, ?_⟩
      have hp2 : (V.put (((ldF l f v).asArr.get k).getD V.null) r push y).2 = 0 := by
        split at hp
        · assumption
        · exact hp
      by_cases h5 : v.kind = 5
      · cases f with
        | zero =>
          obtain ⟨n, hn⟩ := w.2 h5
          cases hn
        | succ f =>
          have e : (ldF l (f + 1) v).asArr = ldF l (f + 1) v := V.asArr_other (by rw [ldF_handle h5]; show ¬ (4 : Int) = 0; decide)
          rw [e, get_ld2 h w h5] at hp2
          have e2 : inner0 l v k = innerH l v.num.toNat k := if_pos h5
          rw [← e2] at hp2
          exact pathOk_of2 h push y r f _ (w.inner2 h k) hp2
      · have e2 : inner0 l v k = V.zero := if_neg h5
        rw [e2]
        exact pathOk_null r push

variable {L W : Nat} {l : List Bk} {R : List V}
theorem Cnt.inR (h : Cnt (isFew L) W l R) : inR l := fun i b hb k s hs hl => h.is_held (List.mem_append.2 (.inr (refs_at hb (refsS_mem.2 ⟨s, List.mem_of_getElem? hs, hl, rfl⟩))))
theorem Cnt.wfs (h : Cnt (isFew L) W l R) (i : Nat) (hi : i < l.length) (hc : 0 < (blk l i).count) : (blk l i).tab.wf := (Tb.isTab_iff _).1 (h.tab i _ (blk_at hi) (by omega)).1.1
theorem Cnt.used (h : Cnt (isFew L) W l R) : usedOk l := ⟨h.inR, h.wfs⟩
theorem Cnt.ch (h : Cnt (isFew L) W l R) : allCh l := by
  intro i b hb
  obtain ⟨hlt, rfl⟩ := blk_some hb
  by_cases h0 : (blk l i).count = 0
  · rw [free_tab (h.fr i _ hb h0)]
    exact tb0_wf.ch
  · exact ((Tb.isTab_iff _).1 (h.tab i _ hb h0).1.1).ch
theorem Cnt.weighed {v : V} (h : Cnt (isFew L) W l R) (hv : v ∈ R) : weighed l W v := by
  have hh := h.is_held (v := v) (by simp [hv])
  refine ⟨hh, fun hk => ?_⟩
  obtain ⟨q1, q2, q3⟩ := held_num hh hk
  obtain ⟨n, hn, hw⟩ := h.light _ _ (blk_at q2) q3
  exact ⟨n, hw.fuel hn⟩
theorem Cnt.wOf {v : V} (h : Cnt (isFew L) W l R) (hW : 1 ≤ W) (hv : v ∈ R) : ∃ a, a ≤ W ∧ wOf l v a := by
  have hh := h.is_held (v := v) (by simp [hv])
  unfold Go.Sx.wOf
  by_cases hk : v.kind = 5
  · obtain ⟨q1, q2, q3⟩ := held_num hh hk
    obtain ⟨n, hn, hw⟩ := h.light _ _ (blk_at q2) q3
    exact ⟨n, hn, by rw [if_pos hk]; exact hw⟩
  · exact ⟨1, hW, by rw [if_neg hk]⟩
theorem Cnt.ld {v : V} (h : Cnt (isFew L) W l R) (hW : 1 ≤ W) (hv : v ∈ R) : (ldF l W v).bulk ≤ 801 * W := by
  have w := h.weighed hv
  by_cases h5 : v.kind = 5
  · obtain ⟨q1, q2, q3⟩ := held_num w.1 h5
    obtain ⟨n, hn, hw⟩ := h.light _ _ (blk_at q2) q3
    have := ld_bulk h.inR h.ch W v w n (fun _ => hw.fuel hn) (fun q => absurd h5 q)
    have : 801 * n ≤ 801 * W := Nat.mul_le_mul_left _ hn
    omega
  · have := ld_bulk h.inR h.ch W v w 1 (fun q => absurd q h5) (fun _ => rfl)
    omega
theorem Cnt.heads (h : Cnt (isFew L) W l R) (i : Nat) : (blk l i).tab.heads.length ≤ 1024 := by
  by_cases hi : i < l.length
  · by_cases h0 : (blk l i).count = 0
    · rw [free_tab (h.fr i _ (blk_at hi) h0)]
      exact Nat.zero_le _
    · have w := (Tb.isTab_iff _).1 (h.tab i _ (blk_at hi) h0).1.1
      cases ht : (blk l i).tab.hashed with
      | true => exact (w.hash ht).1.2
      | false => have := (w.packed ht).1; omega
  · rw [blk_out (by omega)]
    exact Nat.zero_le _
theorem Cnt.sInv (h : Cnt (isFew L) W l R) : sInv 1000000000000 L 16 l := by
  refine ⟨h.hIn, h.ch, fun i b hb => ?_, fun i b hb => ?_, fun i b hb => ?_⟩
  · obtain ⟨_, rfl⟩ := blk_some hb
    exact (few_blk h i).2
  · obtain ⟨_, rfl⟩ := blk_some hb
    exact (few_all h i).2
  · obtain ⟨_, rfl⟩ := blk_some hb
    exact h.heads i
theorem Cnt.bulk (h : Cnt (isFew L) W l R) : szG Bk.bulk l ≤ l.length * (1 + (1024 + L * 417)) := szG_le fun b hb => by
  obtain ⟨i, hi⟩ := List.getElem?_of_mem hb
  obtain ⟨_, rfl⟩ := blk_some hi
  have h1 : szG Sl.bulk (blk l i).tab.slots ≤ (blk l i).tab.slots.length * (1 + (400 + 16)) := szG_le fun s hs => by
    have h2 := (few_all h i).2 s hs
    obtain ⟨k, hk⟩ := List.getElem?_of_mem hs
    have h3 : s.key.str.size ≤ 400 := by
      have := ((h.ch i _ hi).keys k s hk).1
      unfold keyOk at this
      cases ht : s.key.text with
      | true => rw [ht] at this; simp at this; omega
      | false => rw [ht] at this; simp at this; rw [this.1]; exact Nat.zero_le _
    have e : Sl.bulk s = s.key.str.size + s.val.bulk := rfl
    omega
  have h2 := (few_all h i).1
  have h3 : (blk l i).tab.slots.length * (1 + (400 + 16)) ≤ L * (1 + (400 + 16)) := Nat.mul_le_mul_right _ h2
  have h4 := h.heads i
  show (blk l i).tab.bulk ≤ _
  unfold Tb.bulk
  omega
end Go.Sx
/-! The rounds of a drawn heap. -/
namespace Go.Sx
open Go
def wR : Nat → Nat
  | 0 => 85
  | m + 1 => 2 * wR m + 2
theorem wR_pos : ∀ m, 85 ≤ wR m
  | 0 => Nat.le_refl _
  | m + 1 => by
    have := wR_pos m
    unfold wR
    omega
/-- a heap after m rounds, and its roots -/
structure DHp (m : Nat) (l : List Bk) (R : List V) : Prop where
  cnt : Cnt (isFew (4 + 2 * m)) (wR m) l R
  bulk : ∀ u ∈ R, u.bulk ≤ 16
  len : l.length ≤ 84 + 2 * m
  rl : R.length ≤ 4 + m
/-- the heap while its roots are stored -/
structure SHp (l : List Bk) (R : List V) : Prop where
  cnt : Cnt (isFew 4) 85 l R
  bulk : ∀ u ∈ R, u.bulk ≤ 16
  len : l.length ≤ 21 * R.length
theorem cnt_nil {L W : Nat} : Cnt (isFew L) W [] [] :=
  ⟨fun i b h => by simp at h, fun i b h => by simp at h, fun v h => by simp [refsB] at h, fun i h => by simp at h, fun i b h => by simp at h⟩
theorem SHp.nil : SHp [] [] := ⟨cnt_nil, fun u h => by simp at h, Nat.zero_le _⟩
theorem perm_snoc {α : Type} (l : List α) (a : α) : (a :: l).Perm (l ++ [a]) := by
  have := (List.perm_middle (a := a) (l₁ := l) (l₂ := [])).symm
  rwa [List.append_nil] at this
theorem SHp.store {l : List Bk} {R : List V} {v : V} (h : SHp l R) (d : drawnV 3 v) : SHp (sto v l).1 (R ++ [(sto v l).2]) := by
  obtain ⟨c, _, _, b, n⟩ := stoK (L := 4) (W := 85) (by decide) (by decide) 3 (by decide) v d l R h.cnt
  refine ⟨c.perm (perm_snoc _ _), fun u hu => ?_, ?_⟩
  · rcases List.mem_append.1 hu with hu | hu
    · exact h.bulk u hu
    · simp only [List.mem_singleton] at hu
      rw [hu]; exact b
  · have := h.len
    have e : aD 3 = 21 := rfl
    rw [e] at n
    rw [List.length_append, Nat.mul_add]
    show _ ≤ 21 * R.length + 21 * 1
    omega
theorem SHp.start {l : List Bk} {R : List V} (h : SHp l R) (hr : R.length ≤ 4) : DHp 0 l R := ⟨h.cnt, h.bulk, by have := h.len; omega, hr⟩
theorem isFew_up {L L' W W' : Nat} {l : List Bk} {R : List V} (h : Cnt (isFew L) W l R) (hL : L ≤ L') (hW : W ≤ W') : Cnt (isFew L') W' l R := h.mono (fun t k => k.up hL) hW
theorem DHp.same {m : Nat} {l : List Bk} {R : List V} (h : DHp m l R) : DHp (m + 1) l R :=
  ⟨isFew_up h.cnt (by omega) (by show _ ≤ 2 * wR m + 2; omega), h.bulk, by have := h.len; omega, by have := h.rl; omega⟩
theorem cnt_le {L W : Nat} {l : List Bk} {R : List V} (h : Cnt (isFew L) W l R) (i : Nat) : (blk l i).count ≤ ((R.length + l.length * L : Nat) : Int) := by
  by_cases hi : i < l.length
  · rw [h.cnt i hi]
    have h1 := rc_le i (R ++ refsB l)
    have h2 := refsB_le h
    rw [List.length_append] at h1
    omega
  · rw [blk_out (by omega)]
    show (0 : Int) ≤ _
    omega
theorem DHp.small {m : Nat} {l : List Bk} {R : List V} (h : DHp m l R) (hm : m ≤ 5) (i : Nat) : (blk l i).count ≤ 2000 := by
  have h1 := cnt_le h.cnt i
  have h2 := h.len
  have h3 := h.rl
  have h4 : l.length * (4 + 2 * m) ≤ 94 * 14 := Nat.mul_le_mul (by omega) (by omega)
  omega
theorem DHp.sharec {m : Nat} {l : List Bk} {R : List V} (h : DHp m l R) (hm : m ≤ 5) {u : V} (hu : u ∈ R) : Cnt (isFew (4 + 2 * m)) (wR m) (shareH l u) (u :: R) :=
  h.cnt.share (by simp [hu]) fun _ => by
    have := h.small hm u.num.toNat
    omega
theorem DHp.share {m : Nat} {l : List Bk} {R : List V} (h : DHp m l R) (hm : m ≤ 5) {u : V} (hu : u ∈ R) : DHp (m + 1) (shareH l u) (R ++ [u]) := by
  refine ⟨(isFew_up (h.sharec hm hu) (by omega) (by show _ ≤ 2 * wR m + 2; omega)).perm (perm_snoc _ _), fun w hw => ?_, by rw [shareH_len]; have := h.len; omega, by rw [List.length_append]; have := h.rl; show R.length + 1 ≤ _; omega⟩
  rcases List.mem_append.1 hw with hw | hw
  · exact h.bulk w hw
  · simp only [List.mem_singleton] at hw
    rw [hw]; exact h.bulk u hu
theorem at_perm {R : List V} {i : Nat} {v : V} (h : R[i]? = some v) : R.Perm (v :: (R.take i ++ R.drop (i + 1))) := by
  obtain ⟨hi, hv⟩ := List.getElem?_eq_some_iff.1 h
  have e : R = R.take i ++ v :: R.drop (i + 1) := by
    rw [← hv, ← List.drop_eq_getElem_cons hi, List.take_append_drop]
  have p := (List.perm_middle (a := v) (l₁ := R.take i) (l₂ := R.drop (i + 1)))
  rw [← e] at p
  exact p
theorem rest_mem {R : List V} {i : Nat} {u : V} (h : u ∈ R.take i ++ R.drop (i + 1)) : u ∈ R := by
  rcases List.mem_append.1 h with h | h
  · exact List.mem_of_mem_take h
  · exact List.mem_of_mem_drop h
theorem rest_len {R : List V} {i : Nat} {v : V} (h : R[i]? = some v) : (R.take i ++ R.drop (i + 1)).length + 1 = R.length := by
  have := (at_perm h).length_eq
  rw [List.length_cons] at this
  exact this.symm
theorem dropF_len (f : Nat) {l : List Bk} {v : V} {c : Int} (h : hIn l.length c l) (hr : refIn l.length v) : (dropF f l v).length = l.length := by
  have := (drop_in f l v h hr).1.len
  omega
theorem DHp.drop {m : Nat} {l : List Bk} {R : List V} (h : DHp m l R) {i : Nat} {v : V} (hv : R[i]? = some v) : DHp (m + 1) (dropF (slotsN l + 1) l v) (R.take i ++ R.drop (i + 1)) := by
  have hc := h.cnt.perm (at_perm hv)
  have hl := rest_len hv
  have d := Cnt.drop (slotsN l + 1) l v _ (Nat.lt_succ_self _) hc
  refine ⟨isFew_up d (by omega) (by show _ ≤ 2 * wR m + 2; omega), fun u hu => h.bulk u (rest_mem hu), ?_, by have := h.rl; omega⟩
  rw [dropF_len _ h.cnt.hIn (refIn_of hc (by simp))]
  have := h.len
  omega
theorem set_eq {R : List V} {i : Nat} {v : V} (h : R[i]? = some v) (y : V) : R.set i y = R.take i ++ y :: R.drop (i + 1) := by
  exact set_split y (List.getElem?_eq_some_iff.1 h).1
theorem DHp.set {m : Nat} {l : List Bk} {R : List V} (h : DHp m l R) (hm : m ≤ 5) {i : Nat} {v x : V} (hv : R[i]? = some v) (hx : x ∈ R) {p : List Ky} (hk : ∀ k ∈ p, keyOk k = true) (hp : p.length ≤ 2) :
    DHp (m + 1) (wrH p (shareH l x) v false x).1 (R.set i (wrH p (shareH l x) v false x).2) := by
  have c1 := h.sharec hm hx
  have W1 := wR_pos m
  obtain ⟨n, n1, n2⟩ := c1.wOf (v := x) (by omega) (by simp)
  obtain ⟨q, q1, q2⟩ := c1.wOf (v := v) (by omega) (by simp [List.mem_of_getElem? hv])
  have per : (x :: R).Perm (v :: x :: (R.take i ++ R.drop (i + 1))) := ((at_perm hv).cons x).trans (List.Perm.swap _ _ _)
  have rl := rest_len hv
  have h1 := h.rl
  have h2 := h.len
  have hsl := shareH_len l x
  obtain ⟨w1, _, _, w4, w5, _⟩ := cnt_wr p (shareH l x) _ v x (c1.perm per) hk (by omega) n2 (h.bulk x hx) q2 q1 (by omega) (by omega)
  refine ⟨?_, fun u hu => ?_, by omega, by rw [List.length_set]; omega⟩
  · rw [set_eq hv]
    exact (isFew_up w1 (by omega) (by show _ ≤ 2 * wR m + 2; omega)).perm (List.perm_middle (a := (wrH p (shareH l x) v false x).2) (l₁ := R.take i) (l₂ := R.drop (i + 1))).symm
  · rw [set_eq hv] at hu
    rcases List.mem_append.1 hu with hu | hu
    · exact h.bulk u (List.mem_of_mem_take hu)
    · rcases List.mem_cons.1 hu with rfl | hu
      · exact w4
      · exact h.bulk u (List.mem_of_mem_drop hu)
/-- what the write of a round leans on -/
theorem DHp.go {m : Nat} {l : List Bk} {R : List V} (h : DHp m l R) (hm : m ≤ 5) {v x : V} (hv : v ∈ R) (hx : x ∈ R) {p : List Ky} {y : V} (h0 : ((ldF l (wR m) v).put p false y).2 = 0) :
    inR l ∧ allCh l ∧ down l (shareH l x) ∧ sInv 1000000000000 (4 + 2 * m) 16 (shareH l x) ∧ was l v ∧ Hv v ∧ pathOk l p v false ∧ refIn (shareH l x).length x ∧ Hv x ∧ x.bulk ≤ 16 := by
  have hhv := h.cnt.is_held (v := v) (by simp [hv])
  have hhx := h.cnt.is_held (v := x) (by simp [hx])
  refine ⟨h.cnt.inR, h.cnt.ch, (down.refl l).share _, (h.sharec hm hx).sInv, held_was hhv, held_hv hhv, pathOk_of2 h.cnt.used false y p _ v (h.cnt.weighed hv) h0, ?_, held_hv hhx, h.bulk x hx⟩
  rw [shareH_len]
  exact held_ref hhx
theorem DHp.size {m : Nat} {l : List Bk} {R : List V} (h : DHp m l R) (hm : m ≤ 5) : szG Bk.bulk l ≤ 700000 ∧ szG V.bulk R ≤ 200 := by
  have h1 := h.cnt.bulk
  have h2 : l.length * (1 + (1024 + (4 + 2 * m) * 417)) ≤ 94 * (1 + (1024 + 14 * 417)) := Nat.mul_le_mul (by have := h.len; omega) (by omega)
  have h3 := szG_le (w := V.bulk) (M := 16) (l := R) h.bulk
  have h4 := h.rl
  omega
theorem cnt_items {L W : Nat} {l : List Bk} {R : List V} (h : Cnt (isFew L) W l R) {v : V} (hv : v ∈ R) : v.items = [] := (held_items (h.is_held (v := v) (by simp [hv]))).1
theorem cnt_nonneg {L W : Nat} {l : List Bk} {R : List V} (h : Cnt (isFew L) W l R) : ∀ b ∈ l, 0 ≤ b.count := fun b hb => by
  obtain ⟨i, hi⟩ := List.getElem?_of_mem hb
  obtain ⟨hlt, rfl⟩ := blk_some hi
  rw [h.cnt i hlt]
  omega
theorem wR_top {m : Nat} (h : m ≤ 5) : wR m ≤ 2782 := by
  have e : m = 0 ∨ m = 1 ∨ m = 2 ∨ m = 3 ∨ m = 4 ∨ m = 5 := by omega
  rcases e with e | e | e | e | e | e <;> rw [e] <;> decide
theorem kbulk_small {ps : List Ky} (hl : ps.length ≤ 2) (h : ∀ k ∈ ps, k.str.size ≤ 4) : kbulk ps ≤ 100 := by
  match ps, hl, h with
  | [], _, _ => exact Nat.zero_le _
  | [a], _, h =>
    have := h a (by simp)
    simp only [kbulk, List.map_cons, List.map_nil, List.sum_cons, List.sum_nil]
    omega
  | [a, b], _, h =>
    have := h a (by simp)
    have := h b (by simp)
    simp only [kbulk, List.map_cons, List.map_nil, List.sum_cons, List.sum_nil]
    omega
  | _ :: _ :: _ :: _, hl, _ => simp at hl
theorem drawnV.valid {v : V} (h : drawnV 3 v) : v.valid = true := by
  have h1 := h.weight
  have h2 : wD 3 = 85 := rfl
  unfold V.valid
  rw [h.wf, decide_eq_true (show v.weight ≤ 200 by omega)]
  rfl
end Go.Sx
/-! What a draw of an array makes. -/
namespace Go.Sx
open Go
theorem wfEs_snoc {x x' : Int} (hx : x ≤ x') {k : Ky} {w : V} (hk : keyOk k = true) (hn : k.text = true ∨ k.num < x') (hw : w.wf = true) : ∀ (es : List (Ky × V)) (seen : List Ky), wfEs x es seen = true → k ∉ es.map (·.1) → k ∉ seen → wfEs x' (es ++ [(k, w)]) seen = true
  | [], seen, _, _, hs => by
    rw [List.nil_append, wfEs_cons, wfEs_nil]
    simp only [Bool.and_eq_true, Bool.not_eq_true', decide_eq_false_iff_not, and_true, Bool.and_eq_false_imp]
    refine ⟨hk, hs, fun ht => ?_, hw⟩
    rcases hn with hn | hn
    · rw [hn] at ht; cases ht
    · show ¬ x' ≤ k.num
      omega
  | e :: r, seen, h, hm, hs => by
    rw [wfEs_cons] at h
    rw [List.map_cons, List.mem_cons, not_or] at hm
    simp only [Bool.and_eq_true, Bool.not_eq_true', decide_eq_false_iff_not] at h
    obtain ⟨a1, a2, a3, a4, a5⟩ := h
    have ih := wfEs_snoc hx hk hn hw r (seen ++ [e.1]) a5 hm.2 (fun q => by
      rcases List.mem_append.1 q with q | q
      · exact hs q
      · simp only [List.mem_singleton] at q
        exact hm.1 q)
    rw [List.cons_append, wfEs_cons]
    simp only [Bool.and_eq_true, Bool.not_eq_true', decide_eq_false_iff_not]
    refine ⟨a1, a2, ?_, a4, ih⟩
    cases ht : e.1.text with
    | true => simp
    | false =>
      rw [ht] at a3
      simp only [Bool.not_false, Bool.true_and, decide_eq_false_iff_not] at a3 ⊢
      omega
theorem find_fresh {nx : Int} {es : List (Ky × V)} {k : Ky} (h : (V.mk 4 0 ⟨#[]⟩ nx es).find k = none) : k ∉ es.map (·.1) := fun hm => by
  obtain ⟨j, _, e, _⟩ := (fk_first es k 0).1 hm
  have h : fk es k 0 = none := h
  rw [h] at e
  cases e
theorem drawnV.arr {d : Nat} {es : List (Ky × V)} {nx : Int} (hl : es.length ≤ 4) (hw : wfEs nx es [] = true) (h0 : 0 ≤ nx) (h1 : nx ≤ 1000000001) (he : ∀ e ∈ es, drawnV d e.2) : drawnV (d + 1) (V.mk 4 0 ⟨#[]⟩ nx es) := by
  refine .inr ⟨rfl, ?_, hl, he⟩
  rw [V.wf_eq]
  unfold wf0
  simp [V.kind, V.num, V.str, V.next, V.items, hw, h0, h1]
theorem plainV.mk {k n : Int} {s : ByteArray} (h : wf0 (V.mk k n s 0 []) true = true) (hk : ¬ k = 4) (hs : s.size ≤ 16) : plainV (V.mk k n s 0 []) := by
  refine ⟨?_, hk, ?_⟩
  · rw [V.wf_eq]
    show wf0 _ (wfEs 0 [] []) = true
    rw [wfEs_nil]
    exact h
  · rw [V.bulk_eq]
    show s.size + 0 ≤ 16
    omega
theorem plain_int {n : Int} (h : -1000000000 ≤ n ∧ n ≤ 1000000000) : plainV (V.mk 2 n ⟨#[]⟩ 0 []) := .mk (by
  unfold wf0
  simp [V.kind, V.num, V.str, V.next, V.items, h]) (by decide) (by decide)
theorem plain_text {s : ByteArray} (h : s.size ≤ 16) : plainV (V.mk 3 0 s 0 []) := .mk (by
  unfold wf0
  have : s.size ≤ 400 := by omega
  simp [V.kind, V.num, V.str, V.next, V.items, this]) (by decide) h
theorem plain_bool (b : Bool) : plainV (V.mk 1 (if b then 1 else 0) ⟨#[]⟩ 0 []) := by
  cases b
  · exact .mk (by decide) (by decide) (by decide)
  · exact .mk (by decide) (by decide) (by decide)
theorem plain_null : plainV (V.mk 0 0 ⟨#[]⟩ 0 []) := .mk (by decide) (by decide) (by decide)
theorem key_ints : ∀ n ∈ ([0, 1, 2, 3, 4, -1, 7, 1000000000, -1000000000] : List Int), keyOk ⟨false, n, ⟨#[]⟩⟩ = true := by decide
theorem key_05 : keyOk ⟨true, 0, ⟨#[48, 53]⟩⟩ = true := by kernel_rfl
theorem key_strs : ∀ s ∈ ([⟨#[97]⟩, ⟨#[98]⟩, ⟨#[99]⟩, ⟨#[]⟩, ⟨#[48, 53]⟩, ⟨#[120]⟩] : List ByteArray), keyOk ⟨true, 0, s⟩ = true := by
  intro s hs
  simp only [List.mem_cons, List.not_mem_nil, or_false] at hs
  rcases hs with h | h | h | h | h | h
  · rw [h]; decide
  · rw [h]; decide
  · rw [h]; decide
  · rw [h]; decide
  · rw [h]; exact key_05
  · rw [h]; decide
end Go.Sx
namespace Go.Proofs.YtccjkhnefiikaaaGreatDoor
set_option maxRecDepth 8000
open Go Go.Sx
section
variable {h0 h : Hp} {bag : Bag} {l : List UInt8} {p : Nat}
def KeyQ (h0 : Hp) (l : List UInt8) (p : Nat) (bag : Bag) (u : Value) (h' : Hp) : Prop := ∃ k : Ky, u = .agg #[.bool k.text, .int .i64 k.num, .string k.str] ∧ keyOk k = true ∧ k.ok ∧ k.str.size ≤ 4 ∧ CurM h0 h' l p bag
def ValQ (d : Nat) (h0 : Hp) (l : List UInt8) (p : Nat) (bag : Bag) (u : Value) (h' : Hp) : Prop := ∃ (v : V) (a : Option Addr) (c : Nat), u = .agg #[.int .i64 v.kind, .int .i64 v.num, .string v.str, .int .i64 v.next, .slice a v.items.length c] ∧ drawnV d v ∧ v.ok ∧ v.bulk ≤ bD d ∧ CurM h0 h' l p ((.row 8 (v.items.flatMap edt), .slice a v.items.length c) :: bag)
theorem ValQ.plain {k n : Int} {s : ByteArray} {h' : Hp} (hp : plainV (V.mk k n s 0 [])) (hk : IntKind.i64.min ≤ k ∧ k ≤ IntKind.i64.max) (hn : IntKind.i64.min ≤ n ∧ n ≤ IntKind.i64.max) (hs : s.size ≤ 16) (m : CurM h0 h' l p bag) : ValQ 0 h0 l p bag (.agg #[.int .i64 k, .int .i64 n, .string s, .int .i64 0, .slice none 0 0]) h' :=
  ⟨V.mk k n s 0 [], none, 0, rfl, hp, V.ok_mk hk hn (by omega) (by decide) (Nat.zero_le _) (by simp only [V.oks]), by rw [V.bulk_eq]; show s.size + 0 ≤ 16; omega, m.upd fun d m => (m.nilrow).swap⟩
theorem drawn_snoc {d : Nat} {es : List (Ky × V)} {k : Ky} {w : V} (h : ∀ e ∈ es, drawnV d e.2) (hw : drawnV d w) : ∀ e ∈ es ++ [(k, w)], drawnV d e.2 := fun e he => by
  rcases List.mem_append.1 he with he | he
  · exact h e he
  · simp only [List.mem_singleton] at he
    rw [he]; exact hw
theorem l5Key_d (hl : l.length ≤ 1048576) (m : CurM h0 h l p bag) : ACalls Tryz.prog 48 #[pv p] h (KeyQ h0 l p bag) := by
  have lo := i64_lo
  have hi := i64_hi
  (refine enter Tryz.func48 rfl rfl (by kernel_rfl) [] ?_; simp only [go_sem, Nat.reduceBEq])
  refine (l1Once_c hl m 3 (by decide) (by decide)).mono ?_
  rintro _ h1 ⟨b, rfl, m1⟩
  simp only [go_sem, Nat.reduceBEq]
  cases b with
  | true =>
    simp only [go_sem, Nat.reduceBEq]
    refine cur_strs [⟨#[97]⟩, ⟨#[98]⟩, ⟨#[99]⟩, ⟨#[]⟩, ⟨#[48, 53]⟩, ⟨#[120]⟩] slT101 rfl rfl rfl (by decide) (by decide) m1 fun v h2 m2 => ?_
    simp only [go_sem, Nat.reduceBEq]
    refine (l1Str_c hl m2 (by decide) (by decide)).mono ?_
    rintro _ h3 ⟨s, hs, rfl, m3⟩
    simp only [go_sem, Nat.reduceBEq, Nat.reduceAdd, Nat.reduceLeDiff]
    have hsz : s.size ≤ 4 := by
      have hs := hs
      simp only [List.mem_cons, List.not_mem_nil, or_false] at hs
      rcases hs with h | h | h | h | h | h <;> (rw [h]; decide)
    exact ⟨⟨true, 0, s⟩, rfl, key_strs s hs, ⟨by show IntKind.i64.min ≤ 0 ∧ 0 ≤ IntKind.i64.max; omega, by show s.size ≤ maxLen; unfold maxLen; omega⟩, hsz, m3.drop⟩
  | false =>
    simp only [go_sem, Nat.reduceBEq]
    refine cur_ints [0, 1, 2, 3, 4, -1, 7, 1000000000, -1000000000] slT34 rfl rfl rfl (by decide) (by decide) m1 fun v h2 m2 => ?_
    simp only [go_sem, Nat.reduceBEq]
    refine (l1Int_c hl m2 (by decide) (by decide)).mono ?_
    rintro _ h3 ⟨n, hn, rfl, m3⟩
    simp only [go_sem, Nat.reduceBEq, Nat.reduceAdd, Nat.reduceLeDiff]
    have hr : ∀ n ∈ ([0, 1, 2, 3, 4, -1, 7, 1000000000, -1000000000] : List Int), IntKind.i64.min ≤ n ∧ n ≤ IntKind.i64.max := by decide
    exact ⟨⟨false, n, ⟨#[]⟩⟩, rfl, key_ints n hn, ⟨hr n hn, Nat.zero_le _⟩, Nat.zero_le _, m3.drop⟩
theorem l5Scalar_d (hl : l.length ≤ 1048576) (m : CurM h0 h l p bag) : ACalls Tryz.prog 66 #[pv p] h (ValQ 0 h0 l p bag) := by
  have lo := i64_lo
  have hi := i64_hi
  (refine enter Tryz.func66 rfl rfl (by kernel_rfl) [] ?_; simp only [go_sem, Nat.reduceBEq])
  refine (l1Below_c hl m 8 (by decide) (by decide)).mono ?_
  rintro _ h1 ⟨x, rfl, x0, x1, m1⟩
  simp only [go_sem, Nat.reduceBEq]
  by_cases c0 : x = 0
  · simp only [decide_eq_true c0, go_sem, Nat.reduceBEq, Nat.reduceAdd, Nat.reduceLeDiff]
    exact .plain plain_null (by decide) (by decide) (by decide) m1
  simp only [decide_eq_false c0, go_sem, Nat.reduceBEq]
  by_cases c1 : x = 1
  · simp only [decide_eq_true c1, go_sem, Nat.reduceBEq]
    refine (l1Once_c hl m1 2 (by decide) (by decide)).mono ?_
    rintro _ h2 ⟨b, rfl, m2⟩
    simp only [go_sem, Nat.reduceBEq]
    (refine (dBoolV b _).mono ?_; rintro _ _ ⟨rfl, rfl⟩; simp only [go_sem, Nat.reduceBEq, Nat.reduceAdd, Nat.reduceLeDiff])
    exact .plain (plain_bool b) (by decide) (by cases b <;> decide) (by decide) m2
  simp only [decide_eq_false c1, go_sem, Nat.reduceBEq]
  by_cases c2 : x = 2
  · simp only [decide_eq_true c2, go_sem, Nat.reduceBEq]
    refine (l5Word_c hl m1).mono ?_
    rintro _ h2 ⟨s, rfl, hs, m2⟩
    simp only [go_sem, Nat.reduceBEq]
    (refine (dTextV s _).mono ?_; rintro _ _ ⟨rfl, rfl⟩; simp only [go_sem, Nat.reduceBEq, Nat.reduceAdd, Nat.reduceLeDiff])
    exact .plain (plain_text hs) (by decide) (by decide) hs m2
  simp only [decide_eq_false c2, go_sem, Nat.reduceBEq]
  by_cases c3 : x = 3
  · simp only [decide_eq_true c3, go_sem, Nat.reduceBEq]
    refine (l5Word_c hl m1).mono ?_
    rintro _ h2 ⟨s, rfl, hs, m2⟩
    simp only [go_sem, Nat.reduceBEq]
    (refine (dTextV s _).mono ?_; rintro _ _ ⟨rfl, rfl⟩; simp only [go_sem, Nat.reduceBEq, Nat.reduceAdd, Nat.reduceLeDiff])
    exact .plain (plain_text hs) (by decide) (by decide) hs m2
  simp only [decide_eq_false c3, go_sem, Nat.reduceBEq]
  by_cases c4 : x = 4
  · simp only [decide_eq_true c4, go_sem, Nat.reduceBEq]
    refine cur_ints [0, 1, -1, 5, 10, 999999999, 1000000000, -1000000000] slT34 rfl rfl rfl (by decide) (by decide) m1 fun v h2 m2 => ?_
    simp only [go_sem, Nat.reduceBEq]
    refine (l1Int_c hl m2 (by decide) (by decide)).mono ?_
    rintro _ h3 ⟨n, hn, rfl, m3⟩
    simp only [go_sem, Nat.reduceBEq]
    have hr : ∀ n ∈ ([0, 1, -1, 5, 10, 999999999, 1000000000, -1000000000] : List Int), IntKind.i64.min ≤ n ∧ n ≤ IntKind.i64.max := by decide
    (refine (dIntV n _).mono ?_; rintro _ _ ⟨rfl, rfl⟩; simp only [go_sem, Nat.reduceBEq, Nat.reduceAdd, Nat.reduceLeDiff])
    have hr2 : ∀ n ∈ ([0, 1, -1, 5, 10, 999999999, 1000000000, -1000000000] : List Int), -1000000000 ≤ n ∧ n ≤ 1000000000 := by decide
    exact .plain (plain_int (hr2 n hn)) (by decide) (hr n hn) (by decide) m3.drop
  simp only [decide_eq_false c4, go_sem, Nat.reduceBEq]
  refine (l1Below_c hl m1 20 (by decide) (by decide)).mono ?_
  rintro _ h2 ⟨y, rfl, y0, y1, m2⟩
  simp only [go_sem, Nat.reduceBEq]
  (refine (dIntV (IntKind.i64.wrap (y - 5)) _).mono ?_; rintro _ _ ⟨rfl, rfl⟩; simp only [go_sem, Nat.reduceBEq, Nat.reduceAdd, Nat.reduceLeDiff])
  exact .plain (plain_int (by rw [show IntKind.i64.wrap (y - 5) = y - 5 from IntWalk.i64_in _ (by omega)]; omega)) (by decide) (wrap_ok _) (by decide) m2
/-- what is known of the array so far -/
def InQ (d : Nat) (h0 : Hp) (l : List UInt8) (p : Nat) (bag : Bag) (x : Nat × List (Ky × V) × Int × Value) (h' : Hp) : Prop :=
  x.2.1.length + x.1 ≤ 4 ∧ V.oks x.2.1 ∧ V.bulks x.2.1 ≤ x.2.1.length * (5 + bD d) ∧ (0 ≤ x.2.2.1 ∧ x.2.2.1 ≤ 1000000001) ∧ (wfEs x.2.2.1 x.2.1 [] = true ∧ ∀ e ∈ x.2.1, drawnV d e.2) ∧ ∃ a c, x.2.2.2 = .slice a x.2.1.length c ∧ CurM h0 h' l p ((.row 8 (x.2.1.flatMap edt), .slice a x.2.1.length c) :: bag)
theorem l5Draw_d (hl : l.length ≤ 1048576) : ∀ (d : Nat), d ≤ 1000 → ∀ {h0 h : Hp} {bag : Bag}, CurM h0 h l p bag → ACalls Tryz.prog 38 #[pv p, .int .i64 (d : Nat)] h (ValQ d h0 l p bag)
  | 0, _, h0, h, bag, m => by
    (refine enter Tryz.func38 rfl rfl (by kernel_rfl) [] ?_; simp only [go_sem, Nat.reduceBEq])
    simp only [show decide (((0 : Nat) : Int) ≤ 0) = true from rfl, go_sem, Nat.reduceBEq]
    refine (l5Scalar_d hl m).mono ?_
    rintro _ h1 ⟨v, a, c, rfl, hd0, hv, hb, m1⟩
    simp only [go_sem, Nat.reduceBEq, Nat.reduceAdd, Nat.reduceLeDiff]
    exact ⟨v, a, c, rfl, hd0, hv, hb, m1⟩
  | d + 1, hd, h0, h, bag, m => by
    have ih := fun hd {h0 h : Hp} {bag : Bag} m => l5Draw_d hl d hd (h0 := h0) (h := h) (bag := bag) m
    have hp := bD_pos d
    have wd : IntKind.i64.wrap (((d + 1 : Nat) : Int) - 1) = ((d : Nat) : Int) := by rw [IntWalk.i64_in _ (by omega)]; omega
    (refine enter Tryz.func38 rfl rfl (by kernel_rfl) [] ?_; simp only [go_sem, Nat.reduceBEq])
    simp only [show decide (((d + 1 : Nat) : Int) ≤ 0) = false from decide_eq_false (by omega), go_sem, Nat.reduceBEq]
    refine (l1Once_c hl m 3 (by decide) (by decide)).mono ?_
    rintro _ h1 ⟨b, rfl, m1⟩
    simp only [go_sem, Nat.reduceBEq]
    cases b with
    | false =>
      simp only [go_sem, Nat.reduceBEq]
      refine (l5Scalar_d hl m1).mono ?_
      rintro _ h2 ⟨v, a, c, rfl, hd0, hv, hb, m2⟩
      simp only [go_sem, Nat.reduceBEq, Nat.reduceAdd, Nat.reduceLeDiff]
      exact ⟨v, a, c, rfl, .inl hd0, hv, by have hb : v.bulk ≤ 16 := hb; unfold bD; omega, m2⟩
    | true =>
    simp only [go_sem]
    (refine (dArrV _).mono ?_; rintro _ _ ⟨rfl, rfl⟩; simp only [go_sem, Nat.reduceBEq, Nat.reduceAdd, Nat.reduceLeDiff])
    try simp only [go_sem, Nat.reduceBEq, Nat.reduceAdd, Nat.reduceLeDiff, Nat.reduceEqDiff, Int.reduceEq, not_false_eq_true, Int.reduceToNat]
    refine (l1Below_c hl m1 5 (by decide) (by decide)).mono ?_
    rintro _ h2 ⟨x, rfl, x0, x1, m2⟩
    obtain ⟨k0, rfl⟩ := Int.eq_ofNat_of_zero_le x0
    simp only [go_sem, Nat.reduceBEq]
    refine aloop (ι := Nat × List (Ky × V) × Int × Value) (fun x => [(6, .val (.int .i64 (x.1 : Nat))), (5, .box 5 0), (4, .box 4 0), (1, .val (.int .i64 ((d + 1 : Nat) : Int))), (0, .val (pv p))])
      (fun x => [(5, [.int .i64 4, .int .i64 0, .string ⟨#[]⟩, .int .i64 x.2.2.1, x.2.2.2]), (4, [.int .i64 0, .int .i64 0, .string ⟨#[]⟩, .int .i64 0, .slice none 0 0])])
      (InQ d h0 l p bag) (fun x => x.1) (k0, [], 0, .slice none 0 0) ⟨by show 0 + k0 ≤ 4; omega, by simp only [V.oks], Nat.zero_le _, ⟨Int.le_refl _, by show (0 : Int) ≤ 1000000001; decide⟩, ⟨wfEs_nil _ _, fun e he => by cases he⟩, none, 0, rfl, m2.upd fun d m => (m.nilrow).swap⟩ (by repeat (first | exact wkF_e | refine wkF_c rfl ?_)) (wkB_c rfl (wkB_c rfl wkB_e)) rfl ?_
    rintro ⟨kk, es, nx, sl⟩ h3 ⟨hk, ho, hb, hx, hq, a, c, hsl, m3⟩
    have hsl : sl = .slice a es.length c := hsl
    subst hsl
    have hk : es.length + kk ≤ 4 := hk
    have ho : V.oks es := ho
    have hb : V.bulks es ≤ es.length * (5 + bD d) := hb
    have hx : 0 ≤ nx ∧ nx ≤ 1000000001 := hx
    have hq : wfEs nx es [] = true ∧ ∀ e ∈ es, drawnV d e.2 := hq
    have hx2 : IntKind.i64.min ≤ nx ∧ nx ≤ IntKind.i64.max := by rw [i64_lo, i64_hi]; omega
    have m3 : CurM h0 h3 l p ((.row 8 (es.flatMap edt), .slice a es.length c) :: bag) := m3
    simp only [go_sem, Nat.reduceBEq]
    cases kk with
    | zero =>
      simp only [show decide (0 < ((0 : Nat) : Int)) = false from rfl, go_sem, Nat.reduceBEq, Nat.reduceAdd, Nat.reduceLeDiff]
      refine ⟨V.mk 4 0 ⟨#[]⟩ nx es, a, c, rfl, drawnV.arr (by omega) hq.1 hx.1 hx.2 hq.2, V.ok_mk (by decide) (by decide) (by decide) hx2 (by omega) ho, ?_, m3⟩
      rw [V.bulk_eq]
      show 0 + V.bulks es ≤ bD (d + 1)
      have h4 : es.length * (5 + bD d) ≤ 4 * (5 + bD d) := Nat.mul_le_mul_right _ (by omega)
      unfold bD
      omega
    | succ k =>
    have wk : IntKind.i64.wrap (((k + 1 : Nat) : Int) - 1) = ((k : Nat) : Int) := by rw [IntWalk.i64_in _ (by omega)]; omega
    simp only [show decide (0 < ((k + 1 : Nat) : Int)) = true from decide_eq_true (by omega), go_sem, Nat.reduceBEq]
    refine (l5Key_d hl m3).mono ?_
    rintro _ h4 ⟨key, rfl, hkk, hkey, hks, m4⟩
    try simp only [go_sem, Nat.reduceBEq, Nat.reduceAdd, Nat.reduceLeDiff]
    refine (l1Once_c hl m4 2 (by decide) (by decide)).mono ?_
    rintro _ h5 ⟨b, rfl, m5⟩
    try simp only [go_sem, Nat.reduceBEq]
    cases b with
    | false =>
      try simp only [go_sem, Nat.reduceBEq, Nat.reduceAdd, Nat.reduceLeDiff]
      try simp only [go_sem, Nat.reduceBEq, Nat.reduceAdd, Nat.reduceLeDiff, Nat.reduceEqDiff, Int.reduceEq, not_false_eq_true, Int.reduceToNat]
      refine (sFind (V.mk 4 0 ⟨#[]⟩ nx es) key (by show es.length ≤ _; omega) _ _ m5.my.rd).mono ?_
      rintro _ _ ⟨rfl, rfl⟩
      simp only [ixI_neg, go_sem, Nat.reduceBEq]
      cases hf : (V.mk 4 0 ⟨#[]⟩ nx es).find key with
      | some j =>
        simp only [Option.isNone_some, go_sem, Nat.reduceBEq]
        try simp only [go_sem, Nat.reduceBEq, Nat.reduceAdd, Nat.reduceLeDiff, Nat.reduceEqDiff, Int.reduceEq, not_false_eq_true, Int.reduceToNat]
        simp only [wk, go_sem]
        exact Again.intro (k, es, nx, .slice a es.length c) (by first | omega | (simp only; omega)) ⟨(show es.length + k ≤ 4 by omega), ho, hb, hx, hq, a, c, rfl, m5⟩ (by repeat (first | exact wkF_e | refine wkF_c rfl ?_)) (wkB_c rfl (wkB_c rfl wkB_e)) rfl
      | none =>
      simp only [Option.isNone_none, go_sem]
      refine regionD_intro (lb := [41, 42]) (by kernel_rfl) ?_
      simp only [wd, go_sem, Nat.reduceBEq, Nat.reduceAdd, Nat.reduceLeDiff]
      refine (ih (by omega) m5).mono ?_
      rintro _ h9 ⟨w, aw, cw, rfl, hdw, hw, hwb, m9⟩
      try simp only [go_sem, Nat.reduceBEq, Nat.reduceAdd, Nat.reduceLeDiff]
      refine cur_ent (k := key) slT47 rfl m9 fun v10 h10 m10 => ?_
      try simp only [go_sem, Nat.reduceBEq]
      refine cur_push slT47 rfl rfl (by decide) m10 (by omega) fun a11 c11 h11 m11 => ?_
      try simp only [go_sem, Nat.reduceBEq, Nat.reduceAdd, Nat.reduceLeDiff]
      have hl11 : (es ++ [(key, w)]).length = es.length + 1 := by rw [List.length_append]; rfl
      have hb11 : V.bulks (es ++ [(key, w)]) ≤ (es ++ [(key, w)]).length * (5 + bD d) := by
        have hsz := hks
        rw [bulks_snoc, hl11, Nat.add_mul]
        omega
      have ho11 : V.oks (es ++ [(key, w)]) := oks_snoc ho hkey hw
      cases ht : key.text with
      | true =>
        try simp only [go_sem, Nat.reduceBEq]
        simp only [wk, go_sem]
        exact Again.intro (k, es ++ [(key, w)], nx, .slice a11 (es ++ [(key, w)]).length c11) (by first | omega | (simp only; omega)) ⟨(show (es ++ [(key, w)]).length + k ≤ 4 by omega), ho11, hb11, hx, ⟨wfEs_snoc (Int.le_refl _) hkk (.inl ht) hdw.wf es [] hq.1 (find_fresh hf) (by simp), drawn_snoc hq.2 hdw⟩, a11, c11, rfl, m11⟩ (by repeat (first | exact wkF_e | refine wkF_c rfl ?_)) (wkB_c rfl (wkB_c rfl wkB_e)) rfl
      | false =>
      try simp only [go_sem, Nat.reduceBEq]
      (refine (sMax nx (IntKind.i64.wrap (key.num + 1)) _).mono ?_; rintro _ _ ⟨rfl, rfl⟩; simp only [go_sem, Nat.reduceBEq, Nat.reduceAdd, Nat.reduceLeDiff])
      try simp only [go_sem, Nat.reduceBEq, Nat.reduceAdd, Nat.reduceLeDiff, Nat.reduceEqDiff, Int.reduceEq, not_false_eq_true, Int.reduceToNat]
      simp only [wk, go_sem]
      have kn : -1000000000 ≤ key.num ∧ key.num ≤ 1000000000 := (keyOk_num hkk).resolve_left (by rw [ht]; decide)
      have wn : IntKind.i64.wrap (key.num + 1) = key.num + 1 := IntWalk.i64_in _ (by omega)
      exact Again.intro (k, es ++ [(key, w)], max nx (IntKind.i64.wrap (key.num + 1)), .slice a11 (es ++ [(key, w)]).length c11) (by first | omega | (simp only; omega)) ⟨(show (es ++ [(key, w)]).length + k ≤ 4 by omega), ho11, hb11, ⟨by show 0 ≤ max nx _; omega, by rw [wn]; show max nx _ ≤ 1000000001; omega⟩, ⟨by rw [wn]; exact wfEs_snoc (Int.le_max_left _ _) hkk (.inr (by show key.num < max nx (key.num + 1); omega)) hdw.wf es [] hq.1 (find_fresh hf) (by simp), drawn_snoc hq.2 hdw⟩, a11, c11, rfl, m11⟩ (by repeat (first | exact wkF_e | refine wkF_c rfl ?_)) (wkB_c rfl (wkB_c rfl wkB_e)) rfl
    | true =>
    try simp only [go_sem, Nat.reduceBEq]
    by_cases hn : nx ≤ 1000000000
    case neg =>
      simp only [decide_eq_false hn, go_sem, Nat.reduceBEq, Nat.reduceAdd, Nat.reduceLeDiff]
      try simp only [go_sem, Nat.reduceBEq, Nat.reduceAdd, Nat.reduceLeDiff, Nat.reduceEqDiff, Int.reduceEq, not_false_eq_true, Int.reduceToNat]
      refine (sFind (V.mk 4 0 ⟨#[]⟩ nx es) key (by show es.length ≤ _; omega) _ _ m5.my.rd).mono ?_
      rintro _ _ ⟨rfl, rfl⟩
      simp only [ixI_neg, go_sem, Nat.reduceBEq]
      cases hf : (V.mk 4 0 ⟨#[]⟩ nx es).find key with
      | some j =>
        simp only [Option.isNone_some, go_sem, Nat.reduceBEq]
        try simp only [go_sem, Nat.reduceBEq, Nat.reduceAdd, Nat.reduceLeDiff, Nat.reduceEqDiff, Int.reduceEq, not_false_eq_true, Int.reduceToNat]
        simp only [wk, go_sem]
        exact Again.intro (k, es, nx, .slice a es.length c) (by first | omega | (simp only; omega)) ⟨(show es.length + k ≤ 4 by omega), ho, hb, hx, hq, a, c, rfl, m5⟩ (by repeat (first | exact wkF_e | refine wkF_c rfl ?_)) (wkB_c rfl (wkB_c rfl wkB_e)) rfl
      | none =>
      simp only [Option.isNone_none, go_sem]
      refine regionD_intro (lb := [41, 42]) (by kernel_rfl) ?_
      simp only [wd, go_sem, Nat.reduceBEq, Nat.reduceAdd, Nat.reduceLeDiff]
      refine (ih (by omega) m5).mono ?_
      rintro _ h9 ⟨w, aw, cw, rfl, hdw, hw, hwb, m9⟩
      try simp only [go_sem, Nat.reduceBEq, Nat.reduceAdd, Nat.reduceLeDiff]
      refine cur_ent (k := key) slT47 rfl m9 fun v10 h10 m10 => ?_
      try simp only [go_sem, Nat.reduceBEq]
      refine cur_push slT47 rfl rfl (by decide) m10 (by omega) fun a11 c11 h11 m11 => ?_
      try simp only [go_sem, Nat.reduceBEq, Nat.reduceAdd, Nat.reduceLeDiff]
      have hl11 : (es ++ [(key, w)]).length = es.length + 1 := by rw [List.length_append]; rfl
      have hb11 : V.bulks (es ++ [(key, w)]) ≤ (es ++ [(key, w)]).length * (5 + bD d) := by
        have hsz := hks
        rw [bulks_snoc, hl11, Nat.add_mul]
        omega
      have ho11 : V.oks (es ++ [(key, w)]) := oks_snoc ho hkey hw
      cases ht : key.text with
      | true =>
        try simp only [go_sem, Nat.reduceBEq]
        simp only [wk, go_sem]
        exact Again.intro (k, es ++ [(key, w)], nx, .slice a11 (es ++ [(key, w)]).length c11) (by first | omega | (simp only; omega)) ⟨(show (es ++ [(key, w)]).length + k ≤ 4 by omega), ho11, hb11, hx, ⟨wfEs_snoc (Int.le_refl _) hkk (.inl ht) hdw.wf es [] hq.1 (find_fresh hf) (by simp), drawn_snoc hq.2 hdw⟩, a11, c11, rfl, m11⟩ (by repeat (first | exact wkF_e | refine wkF_c rfl ?_)) (wkB_c rfl (wkB_c rfl wkB_e)) rfl
      | false =>
      try simp only [go_sem, Nat.reduceBEq]
      (refine (sMax nx (IntKind.i64.wrap (key.num + 1)) _).mono ?_; rintro _ _ ⟨rfl, rfl⟩; simp only [go_sem, Nat.reduceBEq, Nat.reduceAdd, Nat.reduceLeDiff])
      try simp only [go_sem, Nat.reduceBEq, Nat.reduceAdd, Nat.reduceLeDiff, Nat.reduceEqDiff, Int.reduceEq, not_false_eq_true, Int.reduceToNat]
      simp only [wk, go_sem]
      have kn : -1000000000 ≤ key.num ∧ key.num ≤ 1000000000 := (keyOk_num hkk).resolve_left (by rw [ht]; decide)
      have wn : IntKind.i64.wrap (key.num + 1) = key.num + 1 := IntWalk.i64_in _ (by omega)
      exact Again.intro (k, es ++ [(key, w)], max nx (IntKind.i64.wrap (key.num + 1)), .slice a11 (es ++ [(key, w)]).length c11) (by first | omega | (simp only; omega)) ⟨(show (es ++ [(key, w)]).length + k ≤ 4 by omega), ho11, hb11, ⟨by show 0 ≤ max nx _; omega, by rw [wn]; show max nx _ ≤ 1000000001; omega⟩, ⟨by rw [wn]; exact wfEs_snoc (Int.le_max_left _ _) hkk (.inr (by show key.num < max nx (key.num + 1); omega)) hdw.wf es [] hq.1 (find_fresh hf) (by simp), drawn_snoc hq.2 hdw⟩, a11, c11, rfl, m11⟩ (by repeat (first | exact wkF_e | refine wkF_c rfl ?_)) (wkB_c rfl (wkB_c rfl wkB_e)) rfl
    simp only [decide_eq_true hn, go_sem, Nat.reduceBEq, Nat.reduceAdd, Nat.reduceLeDiff]
    try simp only [go_sem, Nat.reduceBEq, Nat.reduceAdd, Nat.reduceLeDiff, Nat.reduceEqDiff, Int.reduceEq, not_false_eq_true, Int.reduceToNat]
    refine (sFind (V.mk 4 0 ⟨#[]⟩ nx es) (⟨false, nx, ⟨#[]⟩⟩ : Ky) (by show es.length ≤ _; omega) _ _ m5.my.rd).mono ?_
    rintro _ _ ⟨rfl, rfl⟩
    simp only [ixI_neg, go_sem, Nat.reduceBEq]
    cases hf : (V.mk 4 0 ⟨#[]⟩ nx es).find (⟨false, nx, ⟨#[]⟩⟩ : Ky) with
    | some j =>
      simp only [Option.isNone_some, go_sem, Nat.reduceBEq]
      try simp only [go_sem, Nat.reduceBEq, Nat.reduceAdd, Nat.reduceLeDiff, Nat.reduceEqDiff, Int.reduceEq, not_false_eq_true, Int.reduceToNat]
      simp only [wk, go_sem]
      exact Again.intro (k, es, nx, .slice a es.length c) (by first | omega | (simp only; omega)) ⟨(show es.length + k ≤ 4 by omega), ho, hb, hx, hq, a, c, rfl, m5⟩ (by repeat (first | exact wkF_e | refine wkF_c rfl ?_)) (wkB_c rfl (wkB_c rfl wkB_e)) rfl
    | none =>
    simp only [Option.isNone_none, go_sem]
    refine regionD_intro (lb := [41, 42]) (by kernel_rfl) ?_
    simp only [wd, go_sem, Nat.reduceBEq, Nat.reduceAdd, Nat.reduceLeDiff]
    refine (ih (by omega) m5).mono ?_
    rintro _ h9 ⟨w, aw, cw, rfl, hdw, hw, hwb, m9⟩
    try simp only [go_sem, Nat.reduceBEq, Nat.reduceAdd, Nat.reduceLeDiff]
    refine cur_ent (k := (⟨false, nx, ⟨#[]⟩⟩ : Ky)) slT47 rfl m9 fun v10 h10 m10 => ?_
    try simp only [go_sem, Nat.reduceBEq]
    refine cur_push slT47 rfl rfl (by decide) m10 (by omega) fun a11 c11 h11 m11 => ?_
    try simp only [go_sem, Nat.reduceBEq, Nat.reduceAdd, Nat.reduceLeDiff]
    have hl11 : (es ++ [((⟨false, nx, ⟨#[]⟩⟩ : Ky), w)]).length = es.length + 1 := by rw [List.length_append]; rfl
    have hb11 : V.bulks (es ++ [((⟨false, nx, ⟨#[]⟩⟩ : Ky), w)]) ≤ (es ++ [((⟨false, nx, ⟨#[]⟩⟩ : Ky), w)]).length * (5 + bD d) := by
      have hsz := (show (⟨false, nx, ⟨#[]⟩⟩ : Ky).str.size ≤ 4 from Nat.zero_le _)
      rw [bulks_snoc, hl11, Nat.add_mul]
      omega
    have ho11 : V.oks (es ++ [((⟨false, nx, ⟨#[]⟩⟩ : Ky), w)]) := oks_snoc ho (show (⟨false, nx, ⟨#[]⟩⟩ : Ky).ok from ⟨hx2, Nat.zero_le _⟩) hw
    (refine (sMax nx (IntKind.i64.wrap (nx + 1)) _).mono ?_; rintro _ _ ⟨rfl, rfl⟩; simp only [go_sem, Nat.reduceBEq, Nat.reduceAdd, Nat.reduceLeDiff])
    try simp only [go_sem, Nat.reduceBEq, Nat.reduceAdd, Nat.reduceLeDiff, Nat.reduceEqDiff, Int.reduceEq, not_false_eq_true, Int.reduceToNat]
    simp only [wk, go_sem]
    have wn : IntKind.i64.wrap (nx + 1) = nx + 1 := IntWalk.i64_in _ (by omega)
    exact Again.intro (k, es ++ [((⟨false, nx, ⟨#[]⟩⟩ : Ky), w)], max nx (IntKind.i64.wrap (nx + 1)), .slice a11 (es ++ [((⟨false, nx, ⟨#[]⟩⟩ : Ky), w)]).length c11) (by first | omega | (simp only; omega)) ⟨(show (es ++ [((⟨false, nx, ⟨#[]⟩⟩ : Ky), w)]).length + k ≤ 4 by omega), ho11, hb11, ⟨by show 0 ≤ max nx _; omega, by rw [wn]; show max nx _ ≤ 1000000001; omega⟩, ⟨by rw [wn]; exact wfEs_snoc (Int.le_max_left _ _) (push_key hx.1 hn) (.inr (by show nx < max nx (nx + 1); omega)) hdw.wf es [] hq.1 (find_fresh hf) (by simp), drawn_snoc hq.2 hdw⟩, a11, c11, rfl, m11⟩ (by repeat (first | exact wkF_e | refine wkF_c rfl ?_)) (wkB_c rfl (wkB_c rfl wkB_e)) rfl
end
end Go.Proofs.YtccjkhnefiikaaaGreatDoor
/-! Values without items that lie in a row of the walk's own; a heap in a variable beside a cursor. -/
namespace Go.Sx
open Go
section
variable {P : Program} {h0 h : Hp} {K : Value → Hp → Prop} {bag : Bag} {p : Nat} {l : List UInt8}
def rcell (x : V × Option Addr) : List Value := vrw x.1 (.slice x.2 0 0)
def rdt (x : V × Option Addr) : List Dt := (rcell x).map .raw
theorem rdt_len (x : V × Option Addr) : (rdt x).length = 5 := rfl
theorem rcell_one (x : V × Option Addr) : oneCells (rcell x) = true := rfl
theorem rdt_raw : ∀ w : List (V × Option Addr), w.flatMap rdt = (w.flatMap rcell).map .raw
  | [] => rfl
  | x :: r => by
    rw [List.flatMap_cons, List.flatMap_cons, List.map_append, rdt_raw r]
    rfl
theorem rd_empty {z : Nat} {a : Option Addr} : Rd h (.row z []) (.slice a 0 0) := by
  simp only [Rd, RdL]
  exact ⟨[], ⟨⟨a, 0, 0, rfl, Nat.le_refl _, by simp, .inl rfl⟩, rfl⟩, rfl⟩
theorem rdE_none {v : V} {a : Option Addr} (hi : v.items = []) : RdE h v.items (.slice a 0 0) := by
  rw [hi]
  exact rd_empty
theorem rdl_roots : ∀ {w : List (V × Option Addr)}, (∀ x ∈ w, x.1.items = []) → RdL h ((w.map (·.1)).flatMap V.dt) (w.flatMap rcell)
  | [], _ => by simp [RdL]
  | x :: r, hi => by
    have ih := rdl_roots (w := r) fun y hy => hi y (by simp [hy])
    rw [List.map_cons, List.flatMap_cons, List.flatMap_cons, V.dt_eq, hi x (by simp)]
    show RdL h ([Dt.raw (.int .i64 x.1.kind), .raw (.int .i64 x.1.num), .raw (.string x.1.str), .raw (.int .i64 x.1.next), .row 8 []] ++ (r.map (·.1)).flatMap V.dt) ([.int .i64 x.1.kind, .int .i64 x.1.num, .string x.1.str, .int .i64 x.1.next, .slice x.2 0 0] ++ r.flatMap rcell)
    simp only [List.cons_append, List.nil_append, RdL_cc, Rd_raw]
    exact ⟨⟨trivial, rfl⟩, ⟨trivial, rfl⟩, ⟨trivial, rfl⟩, ⟨trivial, rfl⟩, rd_empty, ih⟩
theorem roots_rd {w : List (V × Option Addr)} {u : Value} (hi : ∀ x ∈ w, x.1.items = []) (r : Rd h (.row 5 (w.flatMap rdt)) u) : Rd h (.row 5 ((w.map (·.1)).flatMap V.dt)) u := by
  rw [rdt_raw] at r
  exact Rd.of_raws r (rdl_roots hi)
theorem root_ld {t j b i n cap : Nat} {w : List (V × Option Addr)} {x : V × Option Addr} (ht : tyS P t = some (true, 5)) (r : Rd h (.row 5 (w.flatMap rdt)) (.slice (some ⟨b, 0, none⟩) n cap)) (hx : w[i]? = some x) (hj : j = i * 5)
    (k : K (.agg #[.int .i64 x.1.kind, .int .i64 x.1.num, .string x.1.str, .int .i64 x.1.next, .slice x.2 0 0]) h) : HPure P (ldI t (.pointer (some ⟨b, j, none⟩))) h K := by
  have hl := (List.getElem?_eq_some_iff.1 hx).1
  obtain ⟨a', c', xs, e, _, hr, hat⟩ := r.rows (by decide) w.length (fm_len rdt_len _)
  cases e
  obtain ⟨b', o', e2, hat⟩ := hat (by omega)
  cases e2
  refine hsem_row (f := rdt) (o := 0) rdt_len ht hat hr hx (Nat.le_refl _) (ds := rdt x) (by rw [List.drop_zero, List.take_of_length_le (by rw [rdt_len]; exact Nat.le_refl _)]) (by simpa using hj) fun ys q => ?_
  rw [RdL.of_raws (us := rcell x) q]
  exact k
/-- one value in a literal slice -/
theorem my_root1 {t : Nat} {s : SlT} (hs : slT P t = some s) (hz : s.z = 5) {x : V × Option Addr} (m : My h0 h bag)
    (kk : ∀ v h', My h0 h' ((.row 5 (rdt x), v) :: bag) → K v h') : HSem P (bsI t 1 #[(0, .agg #[.int .i64 x.1.kind, .int .i64 x.1.num, .string x.1.str, .int .i64 x.1.next, .slice x.2 0 0])]) h K := by
  refine hsem_my_lit (h0 := h0) (es := rdt x) (parts := [(0, .agg #[.int .i64 x.1.kind, .int .i64 x.1.num, .string x.1.str, .int .i64 x.1.next, .slice x.2 0 0])]) hs (by omega) (by decide) (by omega) rfl rfl (by simp [Value.cells, hz]) (bag := bag) ?_ (by rw [hz]; rfl) (by rw [hz]; rfl) fun v h' m' => ?_
  · have m1 := raws_zip (rcell_one x) m
    exact m1
  · rw [hz] at m'
    exact kk v h' m'
/-- one key in a literal slice -/
theorem my_key1 {t : Nat} {s : SlT} (hs : slT P t = some s) (hz : s.z = 3) {x : Ky} (m : My h0 h bag)
    (kk : ∀ v h', My h0 h' ((.row 3 x.dt, v) :: bag) → K v h') : HSem P (bsI t 1 #[(0, .agg #[.bool x.text, .int .i64 x.num, .string x.str])]) h K := by
  refine hsem_my_lit (h0 := h0) (es := x.dt) (parts := [(0, .agg #[.bool x.text, .int .i64 x.num, .string x.str])]) hs (by omega) (by decide) (by omega) rfl rfl (by simp [Value.cells, hz]) (bag := bag) ?_ (by rw [hz]; rfl) (by rw [hz]; rfl) fun v h' m' => ?_
  · have m1 := raws_zip (us := [.bool x.text, .int .i64 x.num, .string x.str]) rfl m
    exact m1
  · rw [hz] at m'
    exact kk v h' m'
/-- its append -/
theorem my_push1 {α : Type} {f : α → List Dt} {z t ty : Nat} (hf : ∀ a, (f a).length = z) (hz0 : 0 < z) {s : SlT} (hs : slT P t = some s) (hz : s.z = z) (hzl : s.zero.length = s.z) (hby : s.by_ ≤ 1000) {es : List α} {e : α} {v x : Value}
    (m : My h0 h ((.row z (f e), x) :: (.row z (es.flatMap f), v) :: bag)) (hlen : es.length ≤ 100000)
    (kk : ∀ (a : Option Addr) (c : Nat) (h' : Hp), My h0 h' ((.row z ((es ++ [e]).flatMap f), .slice a (es ++ [e]).length c) :: bag) → K (.slice a (es ++ [e]).length c) h') : HSem P (apI #[t, t] ty #[v, x]) h K := by
  have m : My h0 h ((.row z (es.flatMap f), v) :: (.row z (f e), x) :: bag) := m.swap
  rw [← hz] at m
  have hb : (es.length + 1) * s.by_ ≤ 100001 * 1000 := Nat.mul_le_mul (by omega) hby
  refine hsem_my_append hs (by omega) hzl es.length 1 m (by rw [hz]; exact fm_len hf _) (by rw [hz, Nat.one_mul]; exact hf e) (by omega) (by omega) fun v' h' m' => ?_
  have e5 : es.flatMap f ++ f e = (es ++ [e]).flatMap f := by rw [List.flatMap_append, List.flatMap_cons, List.flatMap_nil, List.append_nil]
  rw [e5, hz] at m'
  obtain ⟨a, c, rfl, _⟩ := m'.row_shape hz0 (es ++ [e]).length (fm_len hf _)
  exact kk a c h' m'
/-- an empty literal -/
theorem my_row0 {t z : Nat} (hz0 : 0 < z) {s : SlT} (hs : slT P t = some s) (hz : s.z = z) (m : My h0 h bag)
    (kk : ∀ (a : Option Addr) (h' : Hp), My h0 h' ((.row z [], .slice a 0 0) :: bag) → K (.slice a 0 0) h') : HSem P (bsI t 0 #[]) h K := by
  refine hsem_my_lit0 hs m fun v h' m' => ?_
  rw [hz] at m'
  obtain ⟨a, c, rfl, _⟩ := m'.row_shape hz0 0 (by simp)
  have hc : c = 0 := m'.cap0
  subst hc
  exact kk a h' m'
/-- a part of the row, read -/
theorem roots_sub {w : List (V × Option Addr)} {a : Option Addr} {c : Nat} (r : Rd h (.row 5 (w.flatMap rdt)) (.slice a w.length c)) (i j : Nat) (hij : i ≤ j) (hj : j ≤ w.length) :
    ∃ a', slA (some 5) a w.length c (i : Int) (j : Int) = some (.slice a' (j - i) (c - i)) ∧ RdS h 5 (.slice a' (j - i) (c - i)) (((w.drop i).take (j - i)).flatMap rcell) := by
  rw [rdt_raw] at r
  simp only [Rd] at r
  obtain ⟨xs, h1, h2⟩ := r
  rw [RdL.of_raws h2] at h1
  obtain ⟨a', h3, h4⟩ := h1.sub i j hij hj
  refine ⟨a', h3, ?_⟩
  have hl : ∀ x : V × Option Addr, (rcell x).length = 5 := fun _ => rfl
  have e : ((w.drop i).take (j - i)).flatMap rcell = ((w.flatMap rcell).drop (i * 5)).take ((j - i) * 5) := by
    have f1 : ∀ (u : List (V × Option Addr)) (k : Nat), (u.flatMap rcell).drop (k * 5) = (u.drop k).flatMap rcell := fun u => by
      induction u with
      | nil => intro k; simp
      | cons x r ih =>
        intro k
        cases k with
        | zero => rfl
        | succ k =>
          rw [List.flatMap_cons, List.drop_succ_cons, ← ih k, Nat.succ_mul, List.drop_append, hl x]
          rw [List.drop_eq_nil_of_le (by rw [hl x]; omega), List.nil_append]
          congr 1
    have f2 : ∀ (u : List (V × Option Addr)) (k : Nat), (u.flatMap rcell).take (k * 5) = (u.take k).flatMap rcell := fun u => by
      induction u with
      | nil => intro k; simp
      | cons x r ih =>
        intro k
        cases k with
        | zero => simp
        | succ k =>
          rw [List.flatMap_cons, List.take_succ_cons, List.flatMap_cons, ← ih k, Nat.succ_mul, List.take_append, hl x]
          rw [List.take_of_length_le (by rw [hl x]; omega)]
          congr 2
    rw [f1, f2]
  rw [e]
  exact h4
/-- .. is appended -/
theorem roots_add {t ty : Nat} {s : SlT} (hs : slT P t = some s) (hz : s.z = 5) (hzl : s.zero.length = s.z) (hby : s.by_ ≤ 1000) {w1 w2 : List (V × Option Addr)} {v x : Value} (m : My h0 h ((.row 5 (w1.flatMap rdt), v) :: bag)) (rd : RdS h 5 x (w2.flatMap rcell)) (hl : w1.length + w2.length ≤ 100000)
    (kk : ∀ (a : Option Addr) (c : Nat) (h' : Hp), My h0 h' ((.row 5 ((w1 ++ w2).flatMap rdt), .slice a (w1 ++ w2).length c) :: bag) → K (.slice a (w1 ++ w2).length c) h') : HSem P (apI #[t, t] ty #[v, x]) h K := by
  have hb : (w1.length + w2.length) * s.by_ ≤ 100000 * 1000 := Nat.mul_le_mul hl hby
  have l2 : (w2.flatMap rcell).length = w2.length * 5 := by
    have := fm_len rdt_len w2
    rw [rdt_raw, List.length_map] at this
    exact this
  rw [← hz] at m rd
  refine hsem_my_appendR hs (by omega) hzl w1.length w2.length m rd (by rw [hz]; exact fm_len rdt_len _) (by rw [hz]; exact l2) (by omega) (by omega) fun v' h' m' => ?_
  rw [← rdt_raw, ← List.flatMap_append, hz] at m'
  obtain ⟨a, c, rfl, _⟩ := m'.row_shape (by decide) (w1 ++ w2).length (fm_len rdt_len _)
  exact kk a c h' m'
/-- one of them is another one -/
theorem root_st {t b i j n cap : Nat} {ag : Bool} {w : List (V × Option Addr)} {x y : V × Option Addr} (ht : tyS P t = some (ag, 5)) (hx : w[i]? = some x) (hj : j = i * 5) (m : My h0 h ((.row 5 (w.flatMap rdt), .slice (some ⟨b, 0, none⟩) n cap) :: bag)) (hn : 0 < n)
    (k : ∀ h', My h0 h' ((.row 5 ((w.set i y).flatMap rdt), .slice (some ⟨b, 0, none⟩) n cap) :: bag) → K undef h') :
    HSem P (stI t (.pointer (some ⟨b, j, none⟩)) (.agg #[.int .i64 y.1.kind, .int .i64 y.1.num, .string y.1.str, .int .i64 y.1.next, .slice y.2 0 0])) h K := by
  have hl := (List.getElem?_eq_some_iff.1 hx).1
  obtain ⟨f1, f2⟩ := fm_split rdt_len hx
  rw [f1] at m
  have m2 : My h0 h ((.row 5 ((w.take i).flatMap rdt ++ (rdt x ++ (w.drop (i + 1)).flatMap rdt)), .slice (some ⟨b, 0, none⟩) n cap) :: ((rdt y).zip (Value.agg #[.int .i64 y.1.kind, .int .i64 y.1.num, .string y.1.str, .int .i64 y.1.next, .slice y.2 0 0]).cells.toList ++ bag)) :=
    (raws_zip (rcell_one y) m).perm List.perm_middle
  refine hsem_my_store ht m2 hn (rdt_len x) (rdt_len y) rfl (by rw [f2]; exact hj) fun h' m' => k h' ?_
  have e : w.set i y = w.take i ++ y :: w.drop (i + 1) := set_split y hl
  rw [e, List.flatMap_append, List.flatMap_cons]
  exact m'
/-- the heap ahead, the cursor and the roots behind it -/
theorem CurM.heap {x : Dt × Value} {lb : List Bk} {a : Option Addr} {n bp : Nat} (c : CurM h0 h l p (x :: HpB lb a n bp bag)) :
    ∃ y, My h0 h (HpB lb a n bp (y :: x :: bag)) ∧ ∀ (h' : Hp) (lb' : List Bk) (a' : Option Addr) (n' : Nat) (x' : Bag), My h0 h' (x' ++ HpB lb' a' n' bp (y :: x :: bag)) → CurM h0 h' l p (x' ++ x :: HpB lb' a' n' bp bag) := by
  obtain ⟨a0, c0, i, hh, h1, h2, h3⟩ := c
  refine ⟨(cuDt (.slice a0 l.length c0) i hh, pv p), h3.perm ?_, fun h' lb' a' n' x' m => ⟨a0, c0, i, hh, h1, h2, m.perm ?_⟩⟩
  · exact List.perm_append_comm (l₁ := [_, x]) (l₂ := [_, _]) |>.append_right bag
  · have e := (List.perm_append_comm (l₁ := [((Dt.row 6 (lb'.flatMap Bk.dt)), Value.slice a' lb'.length n'), (Dt.ptr [] [.raw (.slice a' lb'.length n')] [], .pointer (some ⟨bp, 0, none⟩))]) (l₂ := [(cuDt (.slice a0 l.length c0) i hh, pv p), x])).append_right bag
    exact ((e.append_left x').trans List.perm_middle)
theorem CurM.heap2 {x1 x : Dt × Value} {lb : List Bk} {a : Option Addr} {n bp : Nat} (c : CurM h0 h l p (x1 :: x :: HpB lb a n bp bag)) :
    ∃ y, My h0 h (x1 :: HpB lb a n bp (y :: x :: bag)) ∧ ∀ (h' : Hp) (lb' : List Bk) (a' : Option Addr) (n' : Nat) (x' : Bag), My h0 h' (x' ++ HpB lb' a' n' bp (y :: x :: bag)) → CurM h0 h' l p (x' ++ x :: HpB lb' a' n' bp bag) := by
  obtain ⟨a0, c0, i, hh, h1, h2, h3⟩ := c
  refine ⟨(cuDt (.slice a0 l.length c0) i hh, pv p), h3.perm ?_, fun h' lb' a' n' x' m => ⟨a0, c0, i, hh, h1, h2, m.perm ?_⟩⟩
  · exact (List.Perm.swap _ _ _).trans (((List.perm_append_comm (l₁ := [_, x]) (l₂ := [_, _])).append_right bag).cons x1)
  · have e := (List.perm_append_comm (l₁ := [((Dt.row 6 (lb'.flatMap Bk.dt)), Value.slice a' lb'.length n'), (Dt.ptr [] [.raw (.slice a' lb'.length n')] [], .pointer (some ⟨bp, 0, none⟩))]) (l₂ := [(cuDt (.slice a0 l.length c0) i hh, pv p), x])).append_right bag
    exact ((e.append_left x').trans List.perm_middle)
theorem CurM.three {x1 x2 x3 : Dt × Value} (c : CurM h0 h l p (x1 :: x2 :: x3 :: bag)) : ∃ y, My h0 h (x1 :: x2 :: x3 :: y :: bag) ∧ ∀ h' x', My h0 h' (x' ++ y :: bag) → CurM h0 h' l p (x' ++ bag) := by
  obtain ⟨a, c, i, hh, h1, h2, h3⟩ := c
  exact ⟨_, h3.perm (List.perm_middle (l₁ := [x1, x2, x3])).symm, fun h' x' m => ⟨a, c, i, hh, h1, h2, m.perm List.perm_middle⟩⟩
/-- a slot's link, a slot's key -/
theorem slot_link {t b j n cap i : Nat} {ag : Bool} {ss : List Sl} {s : Sl} {x : Int} (hs : ss[i]? = some s) (ht : tyS P t = some (ag, 1)) (m : My h0 h ((.row 10 (ss.flatMap Sl.dt), .slice (some ⟨b, 0, none⟩) n cap) :: bag)) (hn : 0 < n) (hj : j = i * 10 + 9)
    (k : ∀ h', My h0 h' ((.row 10 ((ss.take i ++ ⟨s.key, s.val, s.live, x⟩ :: ss.drop (i + 1)).flatMap Sl.dt), .slice (some ⟨b, 0, none⟩) n cap) :: bag) → K undef h') : HSem P (stI t (.pointer (some ⟨b, j, none⟩)) (.int .i64 x)) h K := by
  obtain ⟨f1, f2⟩ := fm_split Sl.dt_len hs
  have e : ∀ y : Int, Sl.dt ⟨s.key, s.val, s.live, y⟩ = (s.key.dt ++ (s.val.dt ++ [.raw (.bool s.live)])) ++ [.raw (.int .i64 y)] := fun y => by
    show s.key.dt ++ (s.val.dt ++ [.raw (.bool s.live), .raw (.int .i64 y)]) = _
    simp only [List.append_assoc, List.cons_append, List.nil_append]
  have e1 : ss.flatMap Sl.dt = ((ss.take i).flatMap Sl.dt ++ (s.key.dt ++ (s.val.dt ++ [.raw (.bool s.live)]))) ++ ([.raw (.int .i64 s.link)] ++ (ss.drop (i + 1)).flatMap Sl.dt) := by
    rw [f1]
    have := e s.link
    have h2 : Sl.dt s = Sl.dt ⟨s.key, s.val, s.live, s.link⟩ := rfl
    rw [h2, this]
    simp only [List.append_assoc]
  have l9 : (s.key.dt ++ (s.val.dt ++ [Dt.raw (.bool s.live)])).length = 9 := by rw [List.length_append, List.length_append, V.dt_len]; rfl
  rw [e1] at m
  refine hsem_my_store ht (es := [.raw (.int .i64 x)]) (o := [.raw (.int .i64 s.link)]) (u := .int .i64 x) ((raws_zip (us := [.int .i64 x]) rfl m).perm List.perm_middle) hn rfl rfl rfl (by rw [List.length_append, f2, l9]; exact hj) fun h' m' => k h' ?_
  have e2 : (ss.take i ++ ⟨s.key, s.val, s.live, x⟩ :: ss.drop (i + 1)).flatMap Sl.dt = ((ss.take i).flatMap Sl.dt ++ (s.key.dt ++ (s.val.dt ++ [.raw (.bool s.live)]))) ++ ([.raw (.int .i64 x)] ++ (ss.drop (i + 1)).flatMap Sl.dt) := by
    rw [List.flatMap_append, List.flatMap_cons, e x]
    simp only [List.append_assoc]
  rw [e2]
  exact m'
theorem slot_key {t b j n cap i : Nat} {ag : Bool} {ss : List Sl} {s : Sl} {x : Ky} (hs : ss[i]? = some s) (ht : tyS P t = some (ag, 3)) (m : My h0 h ((.row 10 (ss.flatMap Sl.dt), .slice (some ⟨b, 0, none⟩) n cap) :: bag)) (hn : 0 < n) (hj : j = i * 10)
    (k : ∀ h', My h0 h' ((.row 10 ((ss.take i ++ ⟨x, s.val, s.live, s.link⟩ :: ss.drop (i + 1)).flatMap Sl.dt), .slice (some ⟨b, 0, none⟩) n cap) :: bag) → K undef h') : HSem P (stI t (.pointer (some ⟨b, j, none⟩)) (.agg #[.bool x.text, .int .i64 x.num, .string x.str])) h K := by
  obtain ⟨f1, f2⟩ := fm_split Sl.dt_len hs
  have e1 : ss.flatMap Sl.dt = (ss.take i).flatMap Sl.dt ++ (s.key.dt ++ ((s.val.dt ++ [.raw (.bool s.live), .raw (.int .i64 s.link)]) ++ (ss.drop (i + 1)).flatMap Sl.dt)) := by
    rw [f1]
    show _ ++ ((s.key.dt ++ (s.val.dt ++ [.raw (.bool s.live), .raw (.int .i64 s.link)])) ++ _) = _
    simp only [List.append_assoc]
  rw [e1] at m
  refine hsem_my_store ht (es := x.dt) (o := s.key.dt) (u := .agg #[.bool x.text, .int .i64 x.num, .string x.str]) ((raws_zip (us := [.bool x.text, .int .i64 x.num, .string x.str]) rfl m).perm List.perm_middle) hn rfl rfl rfl (by rw [f2]; exact hj) fun h' m' => k h' ?_
  have e2 : (ss.take i ++ ⟨x, s.val, s.live, s.link⟩ :: ss.drop (i + 1)).flatMap Sl.dt = (ss.take i).flatMap Sl.dt ++ (x.dt ++ ((s.val.dt ++ [.raw (.bool s.live), .raw (.int .i64 s.link)]) ++ (ss.drop (i + 1)).flatMap Sl.dt)) := by
    rw [List.flatMap_append, List.flatMap_cons]
    show _ ++ ((x.dt ++ (s.val.dt ++ [.raw (.bool s.live), .raw (.int .i64 s.link)])) ++ _) = _
    simp only [List.append_assoc]
  rw [e2]
  exact m'
/-- a slot's value, which has no items -/
theorem slot_val {t b j n cap i : Nat} {ag : Bool} {ss : List Sl} {s : Sl} {x : V} {a : Option Addr} (hx : x.items = []) (hs : ss[i]? = some s) (ht : tyS P t = some (ag, 5)) (m : My h0 h ((.row 10 (ss.flatMap Sl.dt), .slice (some ⟨b, 0, none⟩) n cap) :: bag)) (hn : 0 < n) (hj : j = i * 10 + 3)
    (k : ∀ h', My h0 h' ((.row 10 ((ss.take i ++ ⟨s.key, x, s.live, s.link⟩ :: ss.drop (i + 1)).flatMap Sl.dt), .slice (some ⟨b, 0, none⟩) n cap) :: bag) → K undef h') : HSem P (stI t (.pointer (some ⟨b, j, none⟩)) (.agg #[.int .i64 x.kind, .int .i64 x.num, .string x.str, .int .i64 x.next, .slice a 0 0])) h K := by
  obtain ⟨f1, f2⟩ := fm_split Sl.dt_len hs
  have e1 : ss.flatMap Sl.dt = ((ss.take i).flatMap Sl.dt ++ s.key.dt) ++ (s.val.dt ++ ([.raw (.bool s.live), .raw (.int .i64 s.link)] ++ (ss.drop (i + 1)).flatMap Sl.dt)) := by
    rw [f1]
    show _ ++ ((s.key.dt ++ (s.val.dt ++ [.raw (.bool s.live), .raw (.int .i64 s.link)])) ++ _) = _
    simp only [List.append_assoc]
  rw [e1] at m
  have m0 : My h0 h ((.row 8 (x.items.flatMap edt), .slice a 0 0) :: (.row 10 (((ss.take i).flatMap Sl.dt ++ s.key.dt) ++ (s.val.dt ++ ([.raw (.bool s.live), .raw (.int .i64 s.link)] ++ (ss.drop (i + 1)).flatMap Sl.dt))), .slice (some ⟨b, 0, none⟩) n cap) :: bag) := by
    rw [hx]
    exact m.nilrow
  refine hsem_my_store ht (es := x.dt) (o := s.val.dt) (u := .agg #[.int .i64 x.kind, .int .i64 x.num, .string x.str, .int .i64 x.next, .slice a 0 0]) ((val_zip x m0).perm List.perm_middle) hn (V.dt_len _) (V.dt_len _) rfl (by rw [List.length_append, f2]; exact hj) fun h' m' => k h' ?_
  have e2 : (ss.take i ++ ⟨s.key, x, s.live, s.link⟩ :: ss.drop (i + 1)).flatMap Sl.dt = ((ss.take i).flatMap Sl.dt ++ s.key.dt) ++ (x.dt ++ ([.raw (.bool s.live), .raw (.int .i64 s.link)] ++ (ss.drop (i + 1)).flatMap Sl.dt)) := by
    rw [List.flatMap_append, List.flatMap_cons]
    show _ ++ ((s.key.dt ++ (x.dt ++ [.raw (.bool s.live), .raw (.int .i64 s.link)])) ++ _) = _
    simp only [List.append_assoc]
  rw [e2]
  exact m'
theorem CurM.swap {x1 x2 : Dt × Value} (c : CurM h0 h l p (x1 :: x2 :: bag)) : CurM h0 h l p (x2 :: x1 :: bag) := c.upd fun _ m => m.perm ((List.Perm.swap _ _ _).cons _)
/-- a heap's table is put in, is changed -/
theorem hset_bulk {lb : List Bk} {i : Nat} (hi : i < lb.length) (u : Bk) : szG Bk.bulk (lb.set i u) + (blk lb i).bulk = szG Bk.bulk lb + u.bulk := by
  have := gsum_set (w := Bk.bulk) (blk_at hi) u
  unfold szG
  rw [List.length_set]
  omega
theorem slot_hbulk {t : Tb} {i : Nat} {s : Sl} (hs : t.slots[i]? = some s) (u : Sl) : (Tb.mk t.hashed t.heads (t.slots.take i ++ u :: t.slots.drop (i + 1)) t.next t.count).bulk ≤ t.bulk + Sl.bulk u := by
  have := szG_split (w := Sl.bulk) hs u
  unfold Tb.bulk
  show t.heads.length + szG Sl.bulk (t.slots.take i ++ u :: t.slots.drop (i + 1)) ≤ t.heads.length + szG Sl.bulk t.slots + Sl.bulk u
  omega
theorem blk_bulk {lb : List Bk} {i : Nat} (hi : i < lb.length) : (blk lb i).bulk ≤ szG Bk.bulk lb := by
  have := szG_mem (w := Bk.bulk) (List.mem_of_getElem? (blk_at hi))
  omega
theorem CurM.four {x1 x2 x3 x4 : Dt × Value} (c : CurM h0 h l p (x1 :: x2 :: x3 :: x4 :: bag)) : ∃ y, My h0 h (x1 :: x2 :: x4 :: x3 :: y :: bag) ∧ ∀ h' x', My h0 h' (x' ++ y :: bag) → CurM h0 h' l p (x' ++ bag) := by
  obtain ⟨a, c, i, hh, h1, h2, h3⟩ := c
  refine ⟨(cuDt (.slice a l.length c) i hh, pv p), h3.perm ?_, fun h' x' m => ⟨a, c, i, hh, h1, h2, m.perm List.perm_middle⟩⟩
  have e := (List.perm_middle (a := (cuDt (.slice a l.length c) i hh, pv p)) (l₁ := [x1, x2, x3, x4]) (l₂ := bag)).symm
  refine e.trans ?_
  exact ((List.Perm.swap _ _ _).cons _).cons _
theorem HpR.root {w : V} {lb : List Bk} {bp : Nat} {R : Bag} {u : Value} {h' : Hp} (q : HpR h0 w lb bp R u h') (hi : w.items = []) :
    ∃ b a n, u = .agg #[.int .i64 w.kind, .int .i64 w.num, .string w.str, .int .i64 w.next, .slice b 0 0] ∧ My h0 h' (HpB lb a n bp R) := by
  obtain ⟨b, c, a, n, rfl, m⟩ := q
  rw [hi] at m
  have hc : c = 0 := My.cap0 (z := 8) (by simpa using m)
  subst hc
  exact ⟨b, a, n, by rw [hi]; rfl, m.drop⟩
end
end Go.Sx
namespace Go.Proofs.YtccjkhnefiikaaaGreatDoor
set_option maxRecDepth 8000
open Go Go.Sx
section
variable {h0 h : Hp} {bag : Bag} {l : List UInt8} {p : Nat}
/-- A draw of a path. -/
def PathP (n : Nat) (h0 : Hp) (l : List UInt8) (p : Nat) (bag : Bag) (u : Value) (h' : Hp) : Prop := ∃ (ps : List Ky) (a : Option Addr) (c : Nat), u = .slice a ps.length c ∧ ps.length ≤ n ∧ (∀ k ∈ ps, keyOk k = true ∧ k.str.size ≤ 4) ∧ CurM h0 h' l p ((.row 3 (ps.flatMap Ky.dt), .slice a ps.length c) :: bag)
def InP (n : Nat) (h0 : Hp) (l : List UInt8) (p : Nat) (bag : Bag) (x : Nat × List Ky × Value) (h' : Hp) : Prop :=
  x.2.1.length + x.1 ≤ n ∧ (∀ k ∈ x.2.1, keyOk k = true ∧ k.str.size ≤ 4) ∧ ∃ a c, x.2.2 = .slice a x.2.1.length c ∧ CurM h0 h' l p ((.row 3 (x.2.1.flatMap Ky.dt), .slice a x.2.1.length c) :: bag)
theorem Ky.dt_len' (k : Ky) : k.dt.length = 3 := rfl
theorem l12Path_c (hl : l.length ≤ 1048576) (m : CurM h0 h l p bag) (n : Nat) (hn : n ≤ 1000) : ACalls Tryz.prog 39 #[pv p, .int .i64 (n : Nat)] h (PathP n h0 l p bag) := by
  have wn : IntKind.i64.wrap ((n : Int) + 1) = ((n + 1 : Nat) : Int) := by rw [IntWalk.i64_in _ (by omega)]; omega
  (refine enter Tryz.func39 rfl rfl (by kernel_rfl) [] ?_; simp only [go_sem])
  obtain ⟨y, my, back⟩ := m.top
  refine my_row0 (by decide) slT72 rfl my fun a1 h1 m1 => ?_
  have m1 : CurM h0 h1 l p ((.row 3 [], .slice a1 0 0) :: bag) := back h1 [_] m1
  try simp only [go_sem, Nat.reduceBEq]
  simp only [wn, go_sem]
  refine (l1Below_c hl m1 ((n + 1 : Nat) : Int) (by omega) (by omega)).mono ?_
  rintro _ h2 ⟨x, rfl, x0, x1, m2⟩
  obtain ⟨k0, rfl⟩ := Int.eq_ofNat_of_zero_le x0
  try simp only [go_sem, Nat.reduceBEq]
  refine aloop (ι := Nat × List Ky × Value) (fun x => [(6, .val (.int .i64 (x.1 : Nat))), (5, .val x.2.2), (1, .val (.int .i64 (n : Nat))), (0, .val (pv p))]) (fun _ => [])
    (InP n h0 l p bag) (fun x => x.1) (k0, [], .slice a1 0 0) ⟨by show 0 + k0 ≤ n; omega, (fun k hk => by cases hk), a1, 0, rfl, m2⟩ (by repeat (first | exact wkF_e | refine wkF_c rfl ?_)) wkB_e rfl ?_
  rintro ⟨kk, ps, sl⟩ h3 ⟨hk, ho, a, c, hsl, m3⟩
  have hsl : sl = .slice a ps.length c := hsl
  subst hsl
  have hk : ps.length + kk ≤ n := hk
  have ho : ∀ k ∈ ps, keyOk k = true ∧ k.str.size ≤ 4 := ho
  have m3 : CurM h0 h3 l p ((.row 3 (ps.flatMap Ky.dt), .slice a ps.length c) :: bag) := m3
  try simp only [go_sem, Nat.reduceBEq]
  cases kk with
  | zero =>
    simp only [show decide (0 < ((0 : Nat) : Int)) = false from rfl, go_sem, Nat.reduceBEq]
    exact ⟨ps, a, c, rfl, by omega, ho, m3⟩
  | succ k =>
  have wk : IntKind.i64.wrap (((k + 1 : Nat) : Int) - 1) = ((k : Nat) : Int) := by rw [IntWalk.i64_in _ (by omega)]; omega
  simp only [show decide (0 < ((k + 1 : Nat) : Int)) = true from decide_eq_true (by omega), go_sem, Nat.reduceBEq]
  refine (l5Key_d hl m3).mono ?_
  rintro _ h4 ⟨key, rfl, hkk, hkey, hks, m4⟩
  try simp only [go_sem, Nat.reduceBEq]
  obtain ⟨y5, my5, back5⟩ := m4.fst
  refine my_key1 slT72 rfl my5 fun v5 h5 m5 => ?_
  try simp only [go_sem, Nat.reduceBEq]
  refine my_push1 (f := Ky.dt) Ky.dt_len' (by decide) slT72 rfl rfl (by decide) m5 (by omega) fun a6 c6 h6 m6 => ?_
  have m6 : CurM h0 h6 l p ((.row 3 ((ps ++ [key]).flatMap Ky.dt), .slice a6 (ps ++ [key]).length c6) :: bag) := back5 h6 [_] m6
  try simp only [go_sem, Nat.reduceBEq]
  simp only [wk, go_sem]
  exact Again.intro (k, ps ++ [key], .slice a6 (ps ++ [key]).length c6) (by first | omega | (simp only; omega)) ⟨(by show (ps ++ [key]).length + k ≤ n; rw [List.length_append]; show ps.length + 1 + k ≤ n; omega), (fun q hq => by
    rcases List.mem_append.1 hq with hq | hq
    · exact ho q hq
    · simp only [List.mem_singleton] at hq
      rw [hq]; exact ⟨hkk, hks⟩), a6, c6, rfl, m6⟩ (by repeat (first | exact wkF_e | refine wkF_c rfl ?_)) wkB_e rfl
end
end Go.Proofs.YtccjkhnefiikaaaGreatDoor
namespace Go.Proofs
open Go.Shelf
def Tryz.laysM171_ren : Go.Shelf.Ren := ⟨fun | 171 => 95 | 243 => 98 | 246 => 104 | 283 => 108 | 284 => 109 | 285 => 110 | 286 => 111 | 129 => 115 | 317 => 114 | 318 => 116 | 319 => 117 | 320 => 118 | 337 => 119 | 338 => 120 | n => n, fun | 3 => 3 | 9 => 9 | 2 => 2 | 4 => 4 | 171 => 136 | 0 => 0 | 53 => 129 | 37 => 22 | 5 => 5 | 173 => 139 | 212 => 149 | 51 => 150 | 20 => 20 | 213 => 151 | 46 => 79 | 232 => 155 | 233 => 156 | n => n, fun | 17 => 2 | 18 => 3 | 19 => 4 | n => n⟩
theorem Tryz.laysM171 : Go.Proofs.LaysM.n171 Tryz.prog Tryz.laysM171_ren := {
  mixed := by kernel_rfl
  f129 := Tryz.func115.trans (congrArg some (by kernel_rfl))
  f171 := Tryz.func95.trans (congrArg some (by kernel_rfl))
  f243 := Tryz.func98.trans (congrArg some (by kernel_rfl))
  f246 := Tryz.func104.trans (congrArg some (by kernel_rfl))
  f283 := Tryz.func108.trans (congrArg some (by kernel_rfl))
  f284 := Tryz.func109.trans (congrArg some (by kernel_rfl))
  f285 := Tryz.func110.trans (congrArg some (by kernel_rfl))
  f286 := Tryz.func111.trans (congrArg some (by kernel_rfl))
  f317 := Tryz.func114.trans (congrArg some (by kernel_rfl))
  f318 := Tryz.func116.trans (congrArg some (by kernel_rfl))
  f319 := Tryz.func117.trans (congrArg some (by kernel_rfl))
  f320 := Tryz.func118.trans (congrArg some (by kernel_rfl))
  f337 := Tryz.func119.trans (congrArg some (by kernel_rfl))
  f338 := Tryz.func120.trans (congrArg some (by kernel_rfl))
  t0 := Tryz.underlying0
  a0 := Tryz.isAgg0
  z0 := Tryz.sizeOf0
  v0 := Tryz.zeroValue0
  t2 := Tryz.underlying2
  a2 := Tryz.isAgg2
  z2 := Tryz.sizeOf2
  v2 := Tryz.zeroValue2
  t3 := Tryz.underlying3
  a3 := Tryz.isAgg3
  z3 := Tryz.sizeOf3
  v3 := Tryz.zeroValue3
  t4 := Tryz.underlying4
  a4 := Tryz.isAgg4
  z4 := Tryz.sizeOf4
  v4 := Tryz.zeroValue4
  t5 := Tryz.underlying5
  a5 := Tryz.isAgg5
  z5 := Tryz.sizeOf5
  v5 := Tryz.zeroValue5
  t9 := Tryz.underlying9
  a9 := Tryz.isAgg9
  z9 := Tryz.sizeOf9
  v9 := Tryz.zeroValue9
  t20 := Tryz.underlying20
  a20 := Tryz.isAgg20
  z20 := Tryz.sizeOf20
  v20 := Tryz.zeroValue20
  t37 := Tryz.underlying22
  a37 := Tryz.isAgg22
  z37 := Tryz.sizeOf22
  v37 := Tryz.zeroValue22
  t46 := Tryz.underlying79
  a46 := Tryz.isAgg79
  z46 := Tryz.sizeOf79
  v46 := Tryz.zeroValue79
  t51 := Tryz.underlying150
  a51 := Tryz.isAgg150
  z51 := Tryz.sizeOf150
  v51 := Tryz.zeroValue150
  t53 := Tryz.underlying129
  a53 := Tryz.isAgg129
  z53 := Tryz.sizeOf129
  v53 := Tryz.zeroValue129
  t171 := Tryz.underlying136
  a171 := Tryz.isAgg136
  z171 := Tryz.sizeOf136
  v171 := Tryz.zeroValue136
  t173 := Tryz.underlying139
  a173 := Tryz.isAgg139
  z173 := Tryz.sizeOf139
  v173 := Tryz.zeroValue139
  t212 := Tryz.underlying149
  a212 := Tryz.isAgg149
  z212 := Tryz.sizeOf149
  v212 := Tryz.zeroValue149
  t213 := Tryz.underlying151
  a213 := Tryz.isAgg151
  z213 := Tryz.sizeOf151
  t232 := Tryz.underlying155
  a232 := Tryz.isAgg155
  z232 := Tryz.sizeOf155
  v232 := Tryz.zeroValue155
  t233 := Tryz.underlying156
  a233 := Tryz.isAgg156
  z233 := Tryz.sizeOf156
  v233 := Tryz.zeroValue156
  g17 := by kernel_rfl
  g18 := by kernel_rfl
  g19 := by kernel_rfl
  i0 := by kernel_rfl
  i2 := by kernel_rfl
  i3 := by kernel_rfl
  i4 := by kernel_rfl
  i5 := by kernel_rfl
  i9 := by kernel_rfl
  i20 := by kernel_rfl
  i37 := by kernel_rfl
  i46 := by kernel_rfl
  i51 := by kernel_rfl
  i53 := by kernel_rfl
  i171 := by kernel_rfl
  i173 := by kernel_rfl
  i212 := by kernel_rfl
  i232 := by kernel_rfl
  i233 := by kernel_rfl
  m17 := by kernel_rfl
  m18 := by kernel_rfl
  m19 := by kernel_rfl }
open Go.RowKit Go.Sort Go.Lib in
theorem Tryz.strconv_Itoa (n : Int) (h0 : -9223372036854775808 ≤ n) (h1 : n ≤ 9223372036854775807) (w : World) (htab : Lib.TabIs Tryz.prog w "internal/strconv.uint64pow10" .u64 Lib.pow10Tab) :
    Calls Tryz.prog 95 #[.int .i64 n] w fun e w' => e = .returned (.string ⟨(Lib.itoa n).toArray⟩) ∧ ∃ k os, w' = grow (w.drewN k) os := Any.strconv_Itoa Tryz.laysM171 n h0 h1 w htab
def Tryz.laysC172_ren : Go.Shelf.Ren := ⟨fun | 172 => 94 | 244 => 96 | 245 => 97 | 247 => 99 | 279 => 100 | 280 => 101 | 281 => 102 | 282 => 103 | 287 => 105 | 316 => 106 | 171 => 95 | 205 => 107 | 321 => 112 | 322 => 113 | 243 => 98 | 246 => 104 | 283 => 108 | 284 => 109 | 285 => 110 | 286 => 111 | 129 => 115 | 317 => 114 | 318 => 116 | 319 => 117 | 320 => 118 | 337 => 119 | 338 => 120 | n => n, fun | 9 => 9 | 3 => 3 | 75 => 118 | 76 => 119 | 4 => 4 | 5 => 5 | 167 => 122 | 37 => 22 | 0 => 0 | 85 => 123 | 2 => 2 | 168 => 125 | 53 => 129 | 175 => 130 | 46 => 79 | 210 => 134 | 127 => 143 | 145 => 146 | 143 => 144 | 21 => 21 | 171 => 136 | 173 => 139 | 212 => 149 | 51 => 150 | 20 => 20 | 213 => 151 | 232 => 155 | 233 => 156 | 80 => 157 | n => n, fun | 15 => 0 | 16 => 1 | 17 => 2 | 18 => 3 | 19 => 4 | n => n⟩
theorem Tryz.laysC172 : Go.Proofs.LaysC.n172 Tryz.prog Tryz.laysC172_ren := {
  mixed := by kernel_rfl
  f129 := Tryz.func115.trans (congrArg some (by kernel_rfl))
  f171 := Tryz.func95.trans (congrArg some (by kernel_rfl))
  f172 := Tryz.func94.trans (congrArg some (by kernel_rfl))
  f205 := Tryz.func107.trans (congrArg some (by kernel_rfl))
  f243 := Tryz.func98.trans (congrArg some (by kernel_rfl))
  f244 := Tryz.func96.trans (congrArg some (by kernel_rfl))
  f245 := Tryz.func97.trans (congrArg some (by kernel_rfl))
  f246 := Tryz.func104.trans (congrArg some (by kernel_rfl))
  f247 := Tryz.func99.trans (congrArg some (by kernel_rfl))
  f279 := Tryz.func100.trans (congrArg some (by kernel_rfl))
  f280 := Tryz.func101.trans (congrArg some (by kernel_rfl))
  f281 := Tryz.func102.trans (congrArg some (by kernel_rfl))
  f282 := Tryz.func103.trans (congrArg some (by kernel_rfl))
  f283 := Tryz.func108.trans (congrArg some (by kernel_rfl))
  f284 := Tryz.func109.trans (congrArg some (by kernel_rfl))
  f285 := Tryz.func110.trans (congrArg some (by kernel_rfl))
  f286 := Tryz.func111.trans (congrArg some (by kernel_rfl))
  f287 := Tryz.func105.trans (congrArg some (by kernel_rfl))
  f316 := Tryz.func106.trans (congrArg some (by kernel_rfl))
  f317 := Tryz.func114.trans (congrArg some (by kernel_rfl))
  f318 := Tryz.func116.trans (congrArg some (by kernel_rfl))
  f319 := Tryz.func117.trans (congrArg some (by kernel_rfl))
  f320 := Tryz.func118.trans (congrArg some (by kernel_rfl))
  f321 := Tryz.func112.trans (congrArg some (by kernel_rfl))
  f322 := Tryz.func113.trans (congrArg some (by kernel_rfl))
  f337 := Tryz.func119.trans (congrArg some (by kernel_rfl))
  f338 := Tryz.func120.trans (congrArg some (by kernel_rfl))
  t0 := Tryz.underlying0
  a0 := Tryz.isAgg0
  z0 := Tryz.sizeOf0
  v0 := Tryz.zeroValue0
  t2 := Tryz.underlying2
  a2 := Tryz.isAgg2
  z2 := Tryz.sizeOf2
  v2 := Tryz.zeroValue2
  t3 := Tryz.underlying3
  a3 := Tryz.isAgg3
  z3 := Tryz.sizeOf3
  v3 := Tryz.zeroValue3
  t4 := Tryz.underlying4
  a4 := Tryz.isAgg4
  z4 := Tryz.sizeOf4
  v4 := Tryz.zeroValue4
  t5 := Tryz.underlying5
  a5 := Tryz.isAgg5
  z5 := Tryz.sizeOf5
  v5 := Tryz.zeroValue5
  t9 := Tryz.underlying9
  a9 := Tryz.isAgg9
  z9 := Tryz.sizeOf9
  v9 := Tryz.zeroValue9
  t20 := Tryz.underlying20
  a20 := Tryz.isAgg20
  z20 := Tryz.sizeOf20
  v20 := Tryz.zeroValue20
  t21 := Tryz.underlying21
  a21 := Tryz.isAgg21
  z21 := Tryz.sizeOf21
  v21 := Tryz.zeroValue21
  t37 := Tryz.underlying22
  a37 := Tryz.isAgg22
  z37 := Tryz.sizeOf22
  v37 := Tryz.zeroValue22
  t46 := Tryz.underlying79
  a46 := Tryz.isAgg79
  z46 := Tryz.sizeOf79
  v46 := Tryz.zeroValue79
  t51 := Tryz.underlying150
  a51 := Tryz.isAgg150
  z51 := Tryz.sizeOf150
  v51 := Tryz.zeroValue150
  t53 := Tryz.underlying129
  a53 := Tryz.isAgg129
  z53 := Tryz.sizeOf129
  v53 := Tryz.zeroValue129
  t75 := Tryz.underlying118
  a75 := Tryz.isAgg118
  z75 := Tryz.sizeOf118
  v75 := Tryz.zeroValue118
  t76 := Tryz.underlying119
  a76 := Tryz.isAgg119
  z76 := Tryz.sizeOf119
  v76 := Tryz.zeroValue119
  t85 := Tryz.underlying123
  a85 := Tryz.isAgg123
  z85 := Tryz.sizeOf123
  v85 := Tryz.zeroValue123
  t127 := Tryz.underlying143
  a127 := Tryz.isAgg143
  z127 := Tryz.sizeOf143
  v127 := Tryz.zeroValue143
  t143 := Tryz.underlying144
  a143 := Tryz.isAgg144
  z143 := Tryz.sizeOf144
  v143 := Tryz.zeroValue144
  t145 := Tryz.underlying146
  a145 := Tryz.isAgg146
  z145 := Tryz.sizeOf146
  v145 := Tryz.zeroValue146
  t167 := Tryz.underlying122
  a167 := Tryz.isAgg122
  z167 := Tryz.sizeOf122
  v167 := Tryz.zeroValue122
  t168 := Tryz.underlying125
  a168 := Tryz.isAgg125
  z168 := Tryz.sizeOf125
  v168 := Tryz.zeroValue125
  t171 := Tryz.underlying136
  a171 := Tryz.isAgg136
  z171 := Tryz.sizeOf136
  v171 := Tryz.zeroValue136
  t173 := Tryz.underlying139
  a173 := Tryz.isAgg139
  z173 := Tryz.sizeOf139
  v173 := Tryz.zeroValue139
  t175 := Tryz.underlying130
  a175 := Tryz.isAgg130
  z175 := Tryz.sizeOf130
  v175 := Tryz.zeroValue130
  t210 := Tryz.underlying134
  a210 := Tryz.isAgg134
  z210 := Tryz.sizeOf134
  v210 := Tryz.zeroValue134
  t212 := Tryz.underlying149
  a212 := Tryz.isAgg149
  z212 := Tryz.sizeOf149
  v212 := Tryz.zeroValue149
  t213 := Tryz.underlying151
  a213 := Tryz.isAgg151
  z213 := Tryz.sizeOf151
  t232 := Tryz.underlying155
  a232 := Tryz.isAgg155
  z232 := Tryz.sizeOf155
  v232 := Tryz.zeroValue155
  t233 := Tryz.underlying156
  a233 := Tryz.isAgg156
  z233 := Tryz.sizeOf156
  v233 := Tryz.zeroValue156
  g15 := by kernel_rfl
  g16 := by kernel_rfl
  g17 := by kernel_rfl
  g18 := by kernel_rfl
  g19 := by kernel_rfl
  t80 := Tryz.underlying157
  a80 := Tryz.isAgg157
  z80 := Tryz.sizeOf157
  v80 := Tryz.zeroValue157
  i0 := by kernel_rfl
  i2 := by kernel_rfl
  i3 := by kernel_rfl
  i4 := by kernel_rfl
  i5 := by kernel_rfl
  i9 := by kernel_rfl
  i20 := by kernel_rfl
  i21 := by kernel_rfl
  i37 := by kernel_rfl
  i46 := by kernel_rfl
  i51 := by kernel_rfl
  i53 := by kernel_rfl
  i75 := by kernel_rfl
  i76 := by kernel_rfl
  i80 := by kernel_rfl
  i85 := by kernel_rfl
  i127 := by kernel_rfl
  i143 := by kernel_rfl
  i145 := by kernel_rfl
  i167 := by kernel_rfl
  i168 := by kernel_rfl
  i171 := by kernel_rfl
  i173 := by kernel_rfl
  i175 := by kernel_rfl
  i210 := by kernel_rfl
  i212 := by kernel_rfl
  i232 := by kernel_rfl
  i233 := by kernel_rfl
  m15 := by kernel_rfl
  m16 := by kernel_rfl
  m17 := by kernel_rfl
  m18 := by kernel_rfl
  m19 := by kernel_rfl
  c0 := by kernel_rfl
  c2 := by kernel_rfl
  c3 := by kernel_rfl
  c4 := by kernel_rfl
  c5 := by kernel_rfl
  c9 := by kernel_rfl
  c20 := by kernel_rfl
  c21 := by kernel_rfl
  c37 := by kernel_rfl
  c46 := by kernel_rfl
  c51 := by kernel_rfl
  c53 := by kernel_rfl
  c75 := by kernel_rfl
  c76 := by kernel_rfl
  c80 := by kernel_rfl
  c85 := by kernel_rfl
  c127 := by kernel_rfl
  c143 := by kernel_rfl
  c145 := by kernel_rfl
  c167 := by kernel_rfl
  c168 := by kernel_rfl
  c171 := by kernel_rfl
  c173 := by kernel_rfl
  c175 := by kernel_rfl
  c210 := by kernel_rfl
  c212 := by kernel_rfl
  c213 := by kernel_rfl
  c232 := by kernel_rfl
  c233 := by kernel_rfl }
open Go.RowKit in
theorem Tryz.strconv_Atoi_ok (s : ByteArray) (hmax : s.size ≤ 9223372036854775806) (v : Int) (h : Lib.atoiAll s.data.toList = .ok v) (w : World) :
    Calls Tryz.prog 94 #[.string s] w fun e w' => e = .returned (.tuple #[.int .i64 v, .nilIface]) ∧ (w' = w ∨ ∃ t, w' = Lib.bytesWorld w 5 t) := Any.strconv_Atoi_ok Tryz.laysC172 s hmax v h w
open Go.RowKit in
theorem Tryz.strconv_Atoi_syntax_var (s : ByteArray) (hlim : s.size ≤ 281474976710656) (h : Lib.atoiAll s.data.toList = Lib.NumEnd.syntax) (tp : TypeId) (p : Value) (w : World) (hvar : w.var? Tryz.prog "strconv.ErrSyntax" = some #[.iface tp p]) :
    Calls Tryz.prog 94 #[.string s] w fun e w' => ∃ N, e = .returned (.tuple #[.int .i64 0, .iface 125 (.pointer (some ⟨N, 0, none⟩))]) ∧ w.heap.size ≤ N ∧ w'.heap[N]? = some (.cells #[.string ⟨#[65, 116, 111, 105]⟩, .string s, .iface tp p] 134 (0, 0)) ∧ Below w.heap.size w w' := Any.strconv_Atoi_syntax_var Tryz.laysC172 s hlim h tp p w hvar
open Go.RowKit in
theorem Tryz.strconv_Atoi_range_var (s : ByteArray) (hlim : s.size ≤ 281474976710656) (h : Lib.atoiAll s.data.toList = .range) (tp : TypeId) (p : Value) (w : World) (hvar : w.var? Tryz.prog "strconv.ErrRange" = some #[.iface tp p]) :
    Calls Tryz.prog 94 #[.string s] w fun e w' => ∃ N, e = .returned (.tuple #[.int .i64 (Lib.atoiSat s.data.toList), .iface 125 (.pointer (some ⟨N, 0, none⟩))]) ∧ w.heap.size ≤ N ∧ w'.heap[N]? = some (.cells #[.string ⟨#[65, 116, 111, 105]⟩, .string s, .iface tp p] 134 (0, 0)) ∧ Below w.heap.size w w' := Any.strconv_Atoi_range_var Tryz.laysC172 s hlim h tp p w hvar
end Go.Proofs
namespace Go.Proofs.YtccjkhnefiikaaaGreatDoor
set_option maxRecDepth 8000
open Go Go.Sx
def Pow (h : Hp) : Prop := TabH Tryz.prog h "internal/strconv.uint64pow10" .u64 Lib.pow10Tab
theorem Pow.ext {h h' : Hp} (e : Ext h h') (t : Pow h) : Pow h' := TabH.ext e t
theorem itoa_c (n : Int) (hn : IntKind.i64.min ≤ n ∧ n ≤ IntKind.i64.max) (h : Hp) (hT : Pow h) : ACalls Tryz.prog 95 #[.int .i64 n] h (Pu (.string ⟨(Lib.itoa n).toArray⟩) h) :=
  acalls_below (by kernel_rfl) fun w s => (Tryz.strconv_Itoa n hn.1 hn.2 w (hT.is s)).mono fun e w' ⟨he, k, os, hw⟩ => ⟨he, by subst hw; exact below_grow w k os⟩
theorem pow_of {W : World} {laid : List (String × DataW Unit)} (hf : (laid.filter fun x => x.1 == "internal/strconv.uint64pow10") = [("internal/strconv.uint64pow10", Lib.tabData .u64 Lib.pow10Tab)]) (h : laidMet Tryz.prog laid W) : Pow (vis W) := by
  have h2 := h.filter fun x => x.1 == "internal/strconv.uint64pow10"
  rw [hf] at h2
  exact TabH.of (Lib.tabIs_of_head (g := 2) (t := 149) (e := 129) (n := 20) (by kernel_rfl) (by kernel_rfl) Tryz.underlying149 Tryz.underlying129 (by kernel_rfl) (by kernel_rfl) h2)
end Go.Proofs.YtccjkhnefiikaaaGreatDoor
namespace Go.Proofs.YtccjkhnefiikaaaGreatDoor
set_option maxRecDepth 8000
open Go Go.Sx
def ErrH (P : Program) (h : Hp) (name : String) : Prop := ∃ g tp p e x, P.globalNamed name = some g ∧ h g = some (.cells #[.iface tp p] e x)
theorem ErrH.ext {P : Program} {h h' : Hp} {name : String} (e : Ext h h') (t : ErrH P h name) : ErrH P h' name := by
  obtain ⟨g, tp, p, a, x, h1, h2⟩ := t
  exact ⟨g, tp, p, a, x, h1, e g _ h2⟩
theorem ErrH.var {P : Program} {h : Hp} {name : String} {w : World} (s : Sim h w) (t : ErrH P h name) : ∃ tp p, w.var? P name = some #[.iface tp p] := by
  obtain ⟨g, tp, p, a, x, h1, h2⟩ := t
  refine ⟨tp, p, ?_⟩
  unfold World.var?
  rw [h1]
  simp only [Option.bind_some, s.vis g _ h2]
theorem trod_iface {P : Program} {w : World} {sp : Nat → Bool} {fuel t : Nat} {cs : List Value} {nm : String} {d : DataW Unit} {ps : List MemPlace} (hi : isIfc P t = true) (h : DataW.trod (fun _ => ()) P w 0 sp false fuel t cs = some (.iface nm d, ps)) : ∃ u v, cs = [.iface u v] := by
  cases fuel with
  | zero => simp [DataW.trod] at h
  | succ n =>
    have hu : ∃ ms, P.underlying t = some (.interface ms) := by
      unfold isIfc at hi
      split at hi
      · rename_i ms hm
        exact ⟨ms, hm⟩
      · cases hi
    obtain ⟨ms, hu⟩ := hu
    unfold DataW.trod at h
    rw [hu] at h
    split at h <;> simp_all
theorem err_of {P : Program} {W : World} {name nm : String} {d : DataW Unit} {laid : List (String × DataW Unit)} {g t : Nat} (hg : P.globalNamed name = some g) (hty : (P.globals[g]?).map (·.type) = some t) (hi : isIfc P t = true)
    (hf : (laid.filter fun x => x.1 == name) = [(name, .iface nm d)]) (h : laidMet P laid W) : ErrH P (vis W) name := by
  have h2 := h.filter fun x => x.1 == name
  rw [hf] at h2
  obtain ⟨ps, ⟨g', t', cs, fuel, p, q, hg', ht', hvar, hd, _, _⟩, _⟩ := h2
  obtain rfl := Option.some.inj (hg.symm.trans hg')
  obtain rfl := Option.some.inj (hty.symm.trans ht')
  obtain ⟨u, v, hcs⟩ := trod_iface hi hd
  have hcs : cs = #[.iface u v] := by
    cases cs
    simp only at hcs
    rw [hcs]
  subst hcs
  unfold World.var? at hvar
  rw [hg] at hvar
  simp only [Option.bind_some] at hvar
  split at hvar
  · rename_i cs e x hb
    cases hvar
    exact ⟨g, u, v, e, x, hg, hb⟩
  · cases hvar
/-- what the library's variables hold -/
structure Env (h : Hp) : Prop where
  pow : Pow h
  syn : ErrH Tryz.prog h "strconv.ErrSyntax"
  rng : ErrH Tryz.prog h "strconv.ErrRange"
theorem Env.ext {h h' : Hp} (t : Env h) (e : Ext h h') : Env h' := ⟨t.pow.ext e, t.syn.ext e, t.rng.ext e⟩
theorem acalls_belowR {P : Program} {f : Nat} {args : Array Value} {h : Hp} {R : Value → Prop} (hp : plainFn P f = true) (hc : ∀ w, Sim h w → Calls P f args w fun e w' => ∃ v, e = .returned v ∧ R v ∧ RowKit.Below w.heap.size w w') : ACalls P f args h (fun v h' => R v ∧ h = h') :=
  .inl ⟨hp, fun w s => (hc w s).mono fun e w' ⟨v, he, hr, hb⟩ => ⟨v, h, he, ⟨fun b o ho => (hb.block b (by
    have := s.vis b o ho
    exact (Array.getElem?_eq_some_iff.1 this).1)).trans (s.vis b o ho)⟩, ⟨hb.os, hb.tape, hb.output, hb.size, fun b hlt hn => ⟨hb.block b hlt, hn⟩⟩, hr, rfl⟩⟩
def AtoiR (s : ByteArray) (v : Value) : Prop := (∃ n, Lib.atoiAll s.data.toList = .ok n ∧ v = .tuple #[.int .i64 n, .nilIface]) ∨ ((∀ n, Lib.atoiAll s.data.toList ≠ .ok n) ∧ ∃ m t p, v = .tuple #[.int .i64 m, .iface t p])
theorem atoi_c (s : ByteArray) (hs : s.size ≤ 1048576) (h : Hp) (hE : Env h) : ACalls Tryz.prog 94 #[.string s] h (fun v h' => AtoiR s v ∧ h = h') := by
  refine acalls_belowR (by kernel_rfl) fun w sm => ?_
  rcases hx : Lib.atoiAll s.data.toList with n | _ | _
  · refine (Tryz.strconv_Atoi_ok s (by omega) n hx w).mono fun e w' ⟨he, hw⟩ => ⟨_, he, .inl ⟨n, hx, rfl⟩, ?_⟩
    rcases hw with rfl | ⟨t, rfl⟩
    · exact RowKit.Below.refl _ _
    · exact Lib.bytesWorld_below w _ _
  · obtain ⟨tp, p, hv⟩ := hE.syn.var sm
    exact (Tryz.strconv_Atoi_syntax_var s (by omega) hx tp p w hv).mono fun e w' ⟨N, he, _, _, hb⟩ => ⟨_, he, .inr ⟨fun n => (by rw [hx]; simp), _, _, _, rfl⟩, hb⟩
  · obtain ⟨tp, p, hv⟩ := hE.rng.var sm
    exact (Tryz.strconv_Atoi_range_var s (by omega) hx tp p w hv).mono fun e w' ⟨N, he, _, _, hb⟩ => ⟨_, he, .inr ⟨fun n => (by rw [hx]; simp), _, _, _, rfl⟩, hb⟩
theorem env_of {W : World} {laid : List (String × DataW Unit)} (hp : Pow (vis W)) (hf1 : (laid.filter fun x => x.1 == "strconv.ErrSyntax") = [("strconv.ErrSyntax", .iface "*errors.errorString" (.ptr (.agg [.lit (.string [105, 110, 118, 97, 108, 105, 100, 32, 115, 121, 110, 116, 97, 120])])))])
    (hf2 : (laid.filter fun x => x.1 == "strconv.ErrRange") = [("strconv.ErrRange", .iface "*errors.errorString" (.ptr (.agg [.lit (.string [118, 97, 108, 117, 101, 32, 111, 117, 116, 32, 111, 102, 32, 114, 97, 110, 103, 101])])))]) (h : laidMet Tryz.prog laid W) : Env (vis W) :=
  ⟨hp, err_of (g := 0) (t := 118) (by kernel_rfl) (by kernel_rfl) (by kernel_rfl) hf1 h, err_of (g := 1) (t := 118) (by kernel_rfl) (by kernel_rfl) (by kernel_rfl) hf2 h⟩
end Go.Proofs.YtccjkhnefiikaaaGreatDoor
namespace Go.Proofs.YtccjkhnefiikaaaGreatDoor
set_option maxRecDepth 8000
open Go Go.Sx
theorem mdig_dec : ∀ (u : Nat) (acc : List UInt8), 0 < u → mdig u acc = Lib.decDigits u ++ acc := by
  intro u
  induction u using Nat.strongRecOn with
  | _ u ih =>
    intro acc h
    rw [mdig_step h, Lib.decDigits]
    by_cases h10 : u < 10
    · rw [dif_pos h10, show u / 10 = 0 by omega, mdig_zero, show u % 10 = u by omega]
      rfl
    · rw [dif_neg h10, ih (u / 10) (by omega) _ (by omega), List.append_assoc]
      rfl
theorem dig8 (d : Int) (r : Nat) (hd : d = (r : Int)) (hr : r < 10) : IntKind.u8.wrap (IntKind.i64.wrap (48 + d)) = (((UInt8.ofNat (48 + r)).toNat : Nat) : Int) := by
  subst hd
  have : ∀ r : Nat, r < 10 → IntKind.u8.wrap (IntKind.i64.wrap (48 + (r : Int))) = (((UInt8.ofNat (48 + r)).toNat : Nat) : Int) := by decide
  exact this r hr
theorem itoa_zero : Lib.itoa 0 = [48] := by
  unfold Lib.itoa
  rw [if_neg (by decide), Lib.decDigits, dif_pos (by decide)]
  rfl
theorem itoa_pos {n : Int} (h : 0 < n) : Lib.itoa n = mdig n.natAbs [] := by
  unfold Lib.itoa
  rw [if_neg (by omega), mdig_dec _ _ (by omega), List.append_nil, show n.toNat = n.natAbs by omega]
theorem itoa_neg {n : Int} (h : n < 0) : Lib.itoa n = 45 :: mdig n.natAbs [] := by
  unfold Lib.itoa
  rw [if_pos h, mdig_dec _ _ (by omega), List.append_nil]
theorem sFormatInt (n : Int) (hn : IntKind.i64.min ≤ n ∧ n ≤ IntKind.i64.max) (h : Hp) : ACalls Tryz.prog 93 #[.int .i64 n] h (Is (.string ⟨(Lib.itoa n).toArray⟩) h) := by
  have hi : IntKind.i64.min = -9223372036854775808 := by decide
  rw [hi, i64max] at hn
  (refine enter Tryz.func93 rfl rfl (by kernel_rfl) [] ?_; simp only [go_sem, Nat.reduceBEq])
  refine Br.intro (fun h0 => ?_) (fun h0 => ?_) <;> (try simp only [h0, go_sem, Nat.reduceBEq])
  · have h0 := of_decide_eq_true h0
    subst h0
    exact ⟨by rw [itoa_zero], Ext.refl _⟩
  have h0 := of_decide_eq_false h0
  refine aloop (ι := Int × List UInt8) (fun x => [(4, .val (.int .i64 x.1)), (3, .val (.string ⟨x.2.toArray⟩)), (0, .val (.int .i64 n))]) (fun _ => [])
    (fun x h' => mdig x.1.natAbs x.2 = mdig n.natAbs [] ∧ (x.1 = n ∧ x.2 = [] ∨ x.2.length + x.1.natAbs ≤ 4611686018427387904) ∧ Ext h h') (fun x => x.1.natAbs) (n, [])
    ⟨rfl, .inl ⟨rfl, rfl⟩, Ext.refl _⟩ (by repeat (first | exact wkF_e | refine wkF_c rfl ?_)) wkB_e rfl ?_
  rintro ⟨x, l⟩ h1 ⟨hq, hl, he⟩
  have hl : x = n ∧ l = [] ∨ l.length + x.natAbs ≤ 4611686018427387904 := hl
  have hq : mdig x.natAbs l = mdig n.natAbs [] := hq
  have hll : l.length ≤ 4611686018427387904 := by
    rcases hl with ⟨_, rfl⟩ | hl
    · simp
    · omega
  have hxn : x.natAbs ≤ 9223372036854775808 := by
    rcases hl with ⟨rfl, _⟩ | hl <;> omega
  have hr : (x.tmod 10).natAbs = x.natAbs % 10 := Int.natAbs_tmod x 10
  have hd : (x.tdiv 10).natAbs = x.natAbs / 10 := Int.natAbs_tdiv x 10
  have hr10 : x.natAbs % 10 < 10 := Nat.mod_lt _ (by omega)
  have wd : IntKind.i64.wrap (x.tdiv 10) = x.tdiv 10 := IntWalk.i64_in _ (by omega)
  have wr : IntKind.i64.wrap (0 - x.tmod 10) = 0 - x.tmod 10 := IntWalk.i64_in _ (by omega)
  simp only [go_sem, Nat.reduceBEq]
  refine Br.intro (fun hc => ?_) (fun hc => ?_) <;> (try simp only [hc, go_sem, Nat.reduceBEq, Int.reduceEq, not_false_eq_true])
  · have hc : ¬ x = 0 := by simpa using hc
    have next : ∀ h' : Hp, Ext h h' → mdig (x.tdiv 10).natAbs (UInt8.ofNat (48 + x.natAbs % 10) :: l) = mdig n.natAbs [] ∧ (x.tdiv 10 = n ∧ UInt8.ofNat (48 + x.natAbs % 10) :: l = [] ∨ (UInt8.ofNat (48 + x.natAbs % 10) :: l).length + (x.tdiv 10).natAbs ≤ 4611686018427387904) ∧ Ext h h' := fun h' e' => by
      refine ⟨by rw [← hq, hd, ← mdig_step (by omega)], .inr ?_, e'⟩
      rw [List.length_cons, hd]
      rcases hl with ⟨rfl, rfl⟩ | hl
      · simp only [List.length_nil]; omega
      · omega
    refine Br.intro (fun hs => ?_) (fun hs => ?_) <;> (try simp only [hs, go_sem, Nat.reduceBEq])
    · have hs := of_decide_eq_true hs
      simp only [wr, dig8 (0 - x.tmod 10) (x.natAbs % 10) (by omega) hr10, go_sem]
      refine bytes_lit1 slT22 (UInt8.ofNat (48 + x.natAbs % 10)) fun u2 h2 m2 => ?_
      simp only [go_sem, Nat.reduceBEq]
      refine cvK_bytes bytT22 isStr9 m2.rd ?_
      simp only [wd, go_sem, Nat.reduceBEq, Int.reduceEq, not_false_eq_true]
      refine ⟨by rw [i64max]; simp; omega, ?_⟩
      exact Again.intro (x.tdiv 10, UInt8.ofNat (48 + x.natAbs % 10) :: l) (by simp only; omega) (next _ (he.trans m2.ext)) (by repeat (first | exact wkF_e | refine wkF_c rfl ?_)) wkB_e rfl
    · have hs := of_decide_eq_false hs
      simp only [dig8 (x.tmod 10) (x.natAbs % 10) (by omega) hr10, go_sem]
      refine bytes_lit1 slT22 (UInt8.ofNat (48 + x.natAbs % 10)) fun u2 h2 m2 => ?_
      simp only [go_sem, Nat.reduceBEq]
      refine cvK_bytes bytT22 isStr9 m2.rd ?_
      simp only [wd, go_sem, Nat.reduceBEq, Int.reduceEq, not_false_eq_true]
      refine ⟨by rw [i64max]; simp; omega, ?_⟩
      exact Again.intro (x.tdiv 10, UInt8.ofNat (48 + x.natAbs % 10) :: l) (by simp only; omega) (next _ (he.trans m2.ext)) (by repeat (first | exact wkF_e | refine wkF_c rfl ?_)) wkB_e rfl
  · have hc : x = 0 := by simpa using hc
    subst hc
    have hq : l = mdig n.natAbs [] := by rw [← hq]; exact (mdig_zero l).symm
    refine Br.intro (fun hs => ?_) (fun hs => ?_) <;> (try simp only [hs, go_sem, Nat.reduceBEq])
    · have hs := of_decide_eq_true hs
      refine ⟨by rw [i64max]; simp; omega, ?_⟩
      exact ⟨by rw [itoa_neg hs, hq]; rfl, he⟩
    · have hs := of_decide_eq_false hs
      exact ⟨by rw [itoa_pos (by omega), hq], he⟩
end Go.Proofs.YtccjkhnefiikaaaGreatDoor
namespace Go.Proofs.YtccjkhnefiikaaaGreatDoor
set_option maxRecDepth 8000
open Go Go.Sx
def isNeg (l : List UInt8) : Bool := decide (l.head? = some 45)
def at_ (l : List UInt8) : Nat := if isNeg l then 1 else 0
theorem u8sub {c : UInt8} (hc : isDig c = true) : IntKind.i64.wrap (IntKind.u8.wrap ((c.toNat : Int) - 48)) = (c.toNat : Int) - 48 := by
  simp only [isDig, decide_eq_true_eq] at hc
  have h3 : ∀ r : Nat, r < 10 → IntKind.u8.wrap (r : Int) = (r : Int) := by decide
  have h4 := h3 (c.toNat - 48) (by omega)
  rw [show ((c.toNat : Int) - 48) = ((c.toNat - 48 : Nat) : Int) by omega, h4, IntWalk.i64_in _ (by omega)]
theorem str_empty {s : ByteArray} : s = ⟨#[]⟩ ↔ s.size = 0 := ⟨fun e => by subst e; rfl, fun e => by
  cases s with
  | mk d => have : d = #[] := Array.eq_empty_of_size_eq_zero e
            rw [this]⟩
theorem byte_dec (c k : UInt8) : decide ((c.toNat : Int) = (k.toNat : Int)) = decide (c = k) := by
  apply decide_eq_decide.2
  exact ⟨fun h => UInt8.toNat_inj.1 (Int.ofNat.inj h), fun h => by rw [h]⟩
def big : Int := 100000000000
end Go.Proofs.YtccjkhnefiikaaaGreatDoor
namespace Go.Proofs.YtccjkhnefiikaaaGreatDoor
set_option maxRecDepth 8000
open Go Go.Sx
/-- a number read, or none -/
def PS (h : Hp) (s : ByteArray) (u : Value) (h' : Hp) : Prop := Ext h h' ∧ ∃ n : Int, u = .tuple #[.int .i64 n, .bool (canonB s)]
theorem canon_short {s : ByteArray} (h : canonP s) : 1 ≤ s.size ∧ s.size ≤ 11 := by
  obtain ⟨n, h1, h2, h3⟩ := h
  have := size_list s
  have h4 := (itoa_len (n := n) (k := 9) (by omega)).1
  have h5 := itoa_pos_len n
  rw [h3] at this
  omega
theorem canon_atoi {s : ByteArray} {n m : Int} (h : s.data.toList = Lib.itoa n) (hn : n.natAbs < 10 ^ 17) (ha : Lib.atoiAll s.data.toList = .ok m) : m = n := by
  rw [h, atoiAll_itoa hn] at ha
  cases ha
  rfl
theorem ba_itoa {s : ByteArray} {n : Int} (h : (⟨(Lib.itoa n).toArray⟩ : ByteArray) = s) : s.data.toList = Lib.itoa n := by rw [← h]
theorem iParseWithin (s : ByteArray) (h : Hp) (hE : Env h) : ACalls Tryz.prog 91 #[.string s, .int .i64 (-1000000000), .int .i64 1000000000] h (PS h s) := by
  have hif : isIfc Tryz.prog 118 = true := by kernel_rfl
  (refine enter Tryz.func91 rfl rfl (by kernel_rfl) [] ?_; simp only [go_sem, Nat.reduceBEq])
  refine Br.intro (fun hl => ?_) (fun hl => ?_) <;> (try simp only [hl, go_sem, Nat.reduceBEq])
  · have hl := of_decide_eq_true hl
    exact ⟨Ext.refl _, 0, by rw [canonB_false fun k => by have := canon_short k; omega]⟩
  have hl := of_decide_eq_false hl
  refine (atoi_c s (by omega) _ hE).mono ?_
  rintro v _ ⟨hv, rfl⟩
  rcases hv with ⟨n, hx, rfl⟩ | ⟨hx, m, t, p, rfl⟩
  · have hb := Lib.atoiAll_bounds hx
    have hn : IntKind.i64.min ≤ n ∧ n ≤ IntKind.i64.max := by
      rw [i64max, show IntKind.i64.min = -9223372036854775808 by decide]
      exact hb
    simp only [hif, go_sem, Nat.reduceBEq]
    (refine (itoa_c n hn _ hE.pow).mono ?_; rintro _ _ ⟨rfl, rfl⟩; simp only [go_sem, Nat.reduceBEq])
    refine Br.intro (fun h1 => ?_) (fun h1 => ?_) <;> (try simp only [h1, go_sem, Nat.reduceBEq])
    · have h1 : ¬ (⟨(Lib.itoa n).toArray⟩ : ByteArray) = s := by simpa using h1
      refine ⟨Ext.refl _, 0, ?_⟩
      rw [canonB_false]
      rintro ⟨m, hm1, hm2, hm3⟩
      have := canon_atoi hm3 (by omega) hx
      subst this
      exact h1 (ba_of hm3).symm
    have h1 : (⟨(Lib.itoa n).toArray⟩ : ByteArray) = s := by simpa using h1
    have hs := ba_itoa h1
    refine Br.intro (fun h2 => ?_) (fun h2 => ?_) <;> (try simp only [h2, go_sem, Nat.reduceBEq])
    · have h2 := of_decide_eq_true h2
      refine ⟨Ext.refl _, 0, ?_⟩
      rw [canonB_false]
      rintro ⟨m, hm1, hm2, hm3⟩
      have := canon_atoi hm3 (by omega) hx
      omega
    have h2 := of_decide_eq_false h2
    refine Br.intro (fun h3 => ?_) (fun h3 => ?_) <;> (try simp only [h3, go_sem, Nat.reduceBEq])
    · have h3 := of_decide_eq_true h3
      refine ⟨Ext.refl _, 0, ?_⟩
      rw [canonB_false]
      rintro ⟨m, hm1, hm2, hm3⟩
      have := canon_atoi hm3 (by omega) hx
      omega
    have h3 := of_decide_eq_false h3
    exact ⟨Ext.refl _, n, by rw [canonB_true ⟨n, by omega, by omega, hs⟩]⟩
  · simp only [hif, go_sem, Nat.reduceBEq]
    refine ⟨Ext.refl _, 0, ?_⟩
    rw [canonB_false]
    rintro ⟨n, h1, h2, h3⟩
    exact hx n (by rw [h3, atoiAll_itoa (by omega)])
theorem iParseSigned (s : ByteArray) (h : Hp) (hE : Env h) : ACalls Tryz.prog 78 #[.string s] h (PS h s) := by
  (refine enter Tryz.func78 rfl rfl (by kernel_rfl) [] ?_; simp only [go_sem, Nat.reduceBEq])
  refine (iParseWithin s _ hE).mono ?_
  rintro _ h1 ⟨e1, n, rfl⟩
  simp only [go_sem, Nat.reduceBEq]
  exact ⟨e1, n, rfl⟩
/-- a number that is not negative, or none -/
def PI (h : Hp) (s : ByteArray) (u : Value) (h' : Hp) : Prop := Ext h h' ∧ ∃ (n : Nat) (ok : Bool), u = .tuple #[.int .i64 (n : Nat), .bool ok] ∧ (ok = true → n ≤ 1000000000000 ∧ s.data.toList = Lib.itoa n) ∧ (ok = false → ∀ m : Nat, m ≤ 1000000000000 → s.data.toList ≠ Lib.itoa m)
theorem itoa_nat (m : Nat) : Lib.itoa (m : Int) = Lib.decDigits m := by
  unfold Lib.itoa
  rw [if_neg (by omega)]
  rfl
theorem decFrom_step {l : List UInt8} {i n : Nat} {c : UInt8} (h : Lib.decFrom 0 (l.take i) = some n) (hc : l[i]? = some c) (hd : 48 ≤ c.toNat ∧ c.toNat ≤ 57) : Lib.decFrom 0 (l.take (i + 1)) = some (n * 10 + (c.toNat - 48)) :=
  Lib.decFrom_take l i 0 n c _ h hc (by unfold Lib.digitVal; rw [if_pos hd])
theorem sParseInt (s : ByteArray) (h : Hp) : ACalls Tryz.prog 90 #[.string s] h (PI h s) := by
  have hsz := size_list s
  have small : ∀ m : Nat, m ≤ 1000000000000 → s.data.toList = Lib.itoa m → 1 ≤ s.size ∧ s.size ≤ 13 := by
    intro m hm he
    have h1 := (itoa_len (n := (m : Int)) (k := 12) (by omega)).2 (by omega)
    have h2 := itoa_pos_len (m : Int)
    rw [he] at hsz
    omega
  (refine enter Tryz.func90 rfl rfl (by kernel_rfl) [] ?_; simp only [go_sem, Nat.reduceBEq])
  (refine (l1In_c _ _ _ _).mono ?_; rintro _ _ ⟨rfl, rfl⟩; simp only [go_sem, Nat.reduceBEq])
  refine Br.intro (fun hl => ?_) (fun hl => ?_) <;> (try simp only [hl, go_sem, Nat.reduceBEq])
  · have hl : ¬ (1 ≤ s.size ∧ s.size ≤ 13) := by
      simp only [Bool.not_eq_true', decide_eq_false_iff_not] at hl
      omega
    exact ⟨Ext.refl _, 0, false, rfl, by simp, fun _ m hm he => hl (small m hm he)⟩
  have hl : 1 ≤ s.size ∧ s.size ≤ 13 := by
    simp only [Bool.not_eq_false', decide_eq_true_eq] at hl
    omega
  refine aloop (ι := Nat × Nat) (fun x => [(5, .val (.int .i64 (x.1 : Nat))), (4, .val (.int .i64 (x.2 : Nat))), (0, .val (.string s))]) (fun _ => [])
    (fun x h' => x.1 ≤ s.size ∧ Lib.decFrom 0 (s.data.toList.take x.1) = some x.2 ∧ x.2 < 10 ^ x.1 ∧ h = h') (fun x => s.size - x.1) (0, 0)
    ⟨Nat.zero_le _, rfl, by decide, rfl⟩ (by repeat (first | exact wkF_e | refine wkF_c rfl ?_)) wkB_e rfl ?_
  rintro ⟨i, n⟩ _ ⟨hi, hd, hn, rfl⟩
  have hi : i ≤ s.size := hi
  have hd : Lib.decFrom 0 (s.data.toList.take i) = some n := hd
  have hn : n < 10 ^ i := hn
  have hp : 10 ^ i ≤ 10 ^ 13 := Nat.pow_le_pow_right (by decide) (by omega)
  have e13 : (10 : Nat) ^ 13 = 10000000000000 := by decide
  simp only [go_sem, Nat.reduceBEq]
  refine Br.intro (fun hb => ?_) (fun hb => ?_) <;> (try simp only [hb, go_sem, Nat.reduceBEq])
  · have hb : i < s.size := by simpa using hb
    obtain ⟨c, hc⟩ : ∃ c, s.data.toList[i]? = some c := ⟨_, List.getElem?_eq_getElem (by omega)⟩
    have wsu := wrap_succ (i := i) (by omega)
    have hc8 := c.toNat_lt
    have wch : IntKind.i64.wrap (c.toNat : Int) = (c.toNat : Int) := IntWalk.i64_in _ (by omega)
    simp only [sidx_at hc, wch, go_sem, Nat.reduceBEq]
    (refine (l1In_c _ _ _ _).mono ?_; rintro _ _ ⟨rfl, rfl⟩; simp only [go_sem, Nat.reduceBEq])
    refine Br.intro (fun hdg => ?_) (fun hdg => ?_) <;> (try simp only [hdg, go_sem, Nat.reduceBEq])
    · have hdg : ¬ (48 ≤ c.toNat ∧ c.toNat ≤ 57) := by
        simp only [Bool.not_eq_true', decide_eq_false_iff_not] at hdg
        omega
      refine ⟨Ext.refl _, 0, false, rfl, by simp, fun _ m hm he => ?_⟩
      rw [itoa_nat] at he
      obtain ⟨d, hd'⟩ := Lib.digit_of_decFrom _ _ _ (decFrom_dec m) i c (by rw [← he]; exact hc)
      unfold Lib.digitVal at hd'
      rw [if_neg hdg] at hd'
      cases hd'
    · have hdg : 48 ≤ c.toNat ∧ c.toNat ≤ 57 := by
        simp only [Bool.not_eq_false', decide_eq_true_eq] at hdg
        omega
      have hdig : isDig c = true := by simp [isDig]; omega
      have w1 : IntKind.i64.wrap (10 * (n : Int)) = 10 * (n : Int) := IntWalk.i64_in _ (by omega)
      have w2 : IntKind.i64.wrap (10 * (n : Int) + ((c.toNat : Int) - 48)) = ((n * 10 + (c.toNat - 48) : Nat) : Int) := by rw [IntWalk.i64_in _ (by omega)]; omega
      simp only [sidx_at hc, u8sub hdig, w1, w2, wsu, go_sem, Nat.reduceBEq]
      refine Again.intro (i + 1, n * 10 + (c.toNat - 48)) (by first | omega | (simp only; omega)) ⟨hb, decFrom_step hd hc hdg, ?_, rfl⟩ (by repeat (first | exact wkF_e | refine wkF_c rfl ?_)) wkB_e rfl
      simp only
      rw [Nat.pow_succ]
      omega
  · have hb : i = s.size := by simp at hb; omega
    subst hb
    rw [List.take_of_length_le (by omega)] at hd
    have hu : ∀ m : Nat, s.data.toList = Lib.itoa m → m = n := by
      intro m he
      rw [he, itoa_nat, decFrom_dec] at hd
      exact Option.some.inj hd
    refine Br.intro (fun hbig => ?_) (fun hbig => ?_) <;> (try simp only [hbig, go_sem, Nat.reduceBEq])
    · have hbig := of_decide_eq_true hbig
      refine ⟨Ext.refl _, 0, false, rfl, by simp, fun _ m hm he => ?_⟩
      have := hu m he
      omega
    have hbig := of_decide_eq_false hbig
    refine (sFormatInt (n : Int) (by rw [i64max, show IntKind.i64.min = -9223372036854775808 by decide]; omega) _).mono ?_
    rintro _ h2 ⟨rfl, e2⟩
    simp only [go_sem, Nat.reduceBEq]
    refine Br.intro (fun he => ?_) (fun he => ?_) <;> (try simp only [he, go_sem, Nat.reduceBEq])
    · have he : ¬ (⟨(Lib.itoa (n : Int)).toArray⟩ : ByteArray) = s := by simpa using he
      refine ⟨e2, 0, false, rfl, by simp, fun _ m hm hq => ?_⟩
      have := hu m hq
      subst this
      exact he (ba_of hq).symm
    · have he : (⟨(Lib.itoa (n : Int)).toArray⟩ : ByteArray) = s := by simpa using he
      exact ⟨e2, n, true, rfl, fun _ => ⟨by omega, ba_itoa he⟩, by simp⟩
theorem itoa_head_neg {n : Int} {r : List UInt8} (h : Lib.itoa n = 45 :: r) : n < 0 ∧ r = Lib.decDigits n.natAbs := by
  unfold Lib.itoa at h
  by_cases hn : n < 0
  · rw [if_pos hn] at h
    exact ⟨hn, (List.cons.inj h).2.symm⟩
  · rw [if_neg hn] at h
    obtain ⟨b, q, hb, h1, h2⟩ := dec_head n.toNat
    rw [hb] at h
    have := (List.cons.inj h).1
    subst this
    exact absurd h1 (by decide)
theorem sParseSigned (s : ByteArray) (h : Hp) (hs : s.size ≤ 1152921504606846976) : ACalls Tryz.prog 75 #[.string s] h (PS h s) := by
  have hsz := size_list s
  -- what is behind the sign
  have pos : ∀ c : UInt8, s.data.toList[0]? = some c → ¬ c = 45 → ∀ n : Int, s.data.toList = Lib.itoa n → 0 ≤ n := by
    intro c hc hne n he
    by_cases hn : n < 0
    · rw [he] at hc
      unfold Lib.itoa at hc
      rw [if_pos hn] at hc
      simp only [List.getElem?_cons_zero, Option.some.injEq] at hc
      exact absurd hc.symm hne
    · omega
  have plain : (∀ n : Int, s.data.toList = Lib.itoa n → 0 ≤ n) → ∀ h1, ∀ (n : Nat) (ok : Bool), Ext h h1 → (ok = true → n ≤ 1000000000000 ∧ s.data.toList = Lib.itoa n) → (ok = false → ∀ m : Nat, m ≤ 1000000000000 → s.data.toList ≠ Lib.itoa m) → (canonB s = true ↔ ok = true ∧ n ≤ 1000000000) := by
    intro hp h1 n ok e1 k1 k2
    constructor
    · intro hc
      have hc : canonP s := canonB_iff.1 hc
      obtain ⟨m, m1, m2, m3⟩ := hc
      have hm := hp m m3
      cases ok with
      | false => exact absurd m3 (by have := k2 rfl m.toNat (by omega); rwa [show ((m.toNat : Nat) : Int) = m by omega] at this)
      | true =>
        have := itoa_inj (m3.symm.trans (k1 rfl).2)
        exact ⟨rfl, by omega⟩
    · rintro ⟨rfl, hn⟩
      exact canonB_true ⟨(n : Int), by omega, by omega, (k1 rfl).2⟩
  have fin : ∀ (b : Bool) (h1 : Hp) (n : Int), (canonB s = true ↔ b = true) → Ext h h1 → PS h s (.tuple #[.int .i64 n, .bool b]) h1 := by
    intro b h1 n hb e1
    refine ⟨e1, n, ?_⟩
    have : canonB s = b := Bool.eq_iff_iff.2 hb
    rw [this]
  by_cases h0 : s.size = 0
  · (refine enter Tryz.func75 rfl rfl (by kernel_rfl) [] ?_; simp only [go_sem, Nat.reduceBEq])
    have e0 : s = ⟨#[]⟩ := str_empty.2 h0
    have d0 : decide ((0 : Int) < (s.size : Int)) = false := decide_eq_false (by omega)
    simp only [d0, go_sem, Nat.reduceBEq]
    refine (sParseInt s _).mono ?_
    rintro _ h1 ⟨e1, n, ok, rfl, k1, k2⟩
    have hn0 : ∀ n : Int, s.data.toList ≠ Lib.itoa n := by
      intro n he
      have := itoa_pos_len n
      rw [← he] at this
      omega
    cases ok with
    | true => exact absurd (k1 rfl).2 (hn0 n)
    | false =>
      simp only [go_sem, Nat.reduceBEq]
      exact fin false _ 0 ⟨fun hc => absurd (canonB_iff.1 hc) (fun ⟨m, _, _, m3⟩ => hn0 m m3), fun hc => by cases hc⟩ e1
  obtain ⟨c0, hc0⟩ : ∃ c, s.data.toList[0]? = some c := ⟨_, List.getElem?_eq_getElem (by omega)⟩
  have hix : sidx s 0 = some (.int .u8 c0.toNat) := sidx_at hc0
  have d0 : decide ((0 : Int) < (s.size : Int)) = true := decide_eq_true (by omega)
  by_cases h45 : c0 = 45
  · subst h45
    obtain ⟨r, hr⟩ : ∃ r, s.data.toList = 45 :: r := by
      cases hd : s.data.toList with
      | nil => rw [hd] at hc0; simp at hc0
      | cons a r => rw [hd] at hc0; simp at hc0; exact ⟨r, by rw [hc0]⟩
    have hex : (s.extract 1 s.size).data.toList = r := by
      have : (s.extract 1 s.size).data.toList = s.data.toList.drop 1 := by
        simp only [ByteArray.data_extract, Array.toList_extract, List.extract]
        exact List.take_of_length_le (by rw [List.length_drop]; omega)
      rw [this, hr]
      rfl
    have hd45 : decide ((((45 : UInt8).toNat : Nat) : Int) = 45) = true := by decide
    (refine enter Tryz.func75 rfl rfl (by kernel_rfl) [] ?_; simp only [go_sem, Nat.reduceBEq])
    simp only [d0, hix, hd45, go_sem, Nat.reduceBEq, Int.reduceToNat]
    have hcond : (0 : Int) ≤ 1 ∧ (1 : Int) ≤ (s.size : Int) ∧ (s.size : Int) ≤ (s.size : Int) := by omega
    try simp only [hcond, go_sem]
    refine (sParseInt (s.extract 1 s.size) _).mono ?_
    rintro _ h1 ⟨e1, n, ok, rfl, k1, k2⟩
    rw [hex] at k1 k2
    have key : canonB s = true ↔ ok = true ∧ n ≤ 1000000000 ∧ ¬ n = 0 := by
      constructor
      · intro hc
        have hc : canonP s := canonB_iff.1 hc
        obtain ⟨m, m1, m2, m3⟩ := hc
        rw [hr] at m3
        obtain ⟨m4, m5⟩ := itoa_head_neg m3.symm
        rw [← itoa_nat] at m5
        cases ok with
        | false => exact absurd m5 (k2 rfl m.natAbs (by omega))
        | true =>
          have := itoa_inj (m5.symm.trans (k1 rfl).2)
          exact ⟨rfl, by omega, by omega⟩
      · rintro ⟨rfl, hn, hn0⟩
        refine canonB_true ⟨-(n : Int), by omega, by omega, ?_⟩
        rw [hr, (k1 rfl).2, itoa_nat]
        unfold Lib.itoa
        rw [if_pos (by omega), Int.natAbs_neg, Int.natAbs_natCast]
    cases ok with
    | false =>
      simp only [go_sem, Nat.reduceBEq]
      exact fin _ _ _ (key.trans (by simp)) e1
    | true =>
      simp only [go_sem, Nat.reduceBEq]
      refine Br.intro (fun hb => ?_) (fun hb => ?_) <;> (try simp only [hb, go_sem, Nat.reduceBEq])
      · have hb := of_decide_eq_true hb
        exact fin _ _ _ (key.trans (by simp; omega)) e1
      have hb := of_decide_eq_false hb
      refine Br.intro (fun hz => ?_) (fun hz => ?_) <;> (try simp only [hz, go_sem, Nat.reduceBEq])
      · have hz := of_decide_eq_true hz
        exact fin _ _ _ (key.trans (by simp; omega)) e1
      · have hz := of_decide_eq_false hz
        exact fin _ _ _ (key.trans (by simp; omega)) e1
  · have hd45 : decide ((c0.toNat : Int) = 45) = false := by
      rw [show (45 : Int) = ((45 : UInt8).toNat : Int) from rfl, byte_dec]
      exact decide_eq_false h45
    (refine enter Tryz.func75 rfl rfl (by kernel_rfl) [] ?_; simp only [go_sem, Nat.reduceBEq])
    simp only [d0, hix, hd45, go_sem, Nat.reduceBEq]
    refine (sParseInt s _).mono ?_
    rintro _ h1 ⟨e1, n, ok, rfl, k1, k2⟩
    have key := plain (pos c0 hc0 h45) h1 n ok e1 k1 k2
    cases ok with
    | false =>
      simp only [go_sem, Nat.reduceBEq]
      exact fin _ _ _ (key.trans (by simp)) e1
    | true =>
      simp only [go_sem, Nat.reduceBEq]
      refine Br.intro (fun hb => ?_) (fun hb => ?_) <;> (try simp only [hb, go_sem, Nat.reduceBEq])
      · have hb := of_decide_eq_true hb
        exact fin _ _ _ (key.trans (by simp; omega)) e1
      · have hb := of_decide_eq_false hb
        exact fin _ _ _ (key.trans (by simp; omega)) e1
theorem iIsKey (k : Ky) (h : Hp) (hE : Env h) : ACalls Tryz.prog 54 #[.agg #[.bool k.text, .int .i64 k.num, .string k.str]] h (Is (.bool (keyOk k)) h) := by
  (refine enter Tryz.func54 rfl rfl (by kernel_rfl) [] ?_; simp only [go_sem, Nat.reduceBEq])
  cases ht : k.text with
  | false =>
    have e : keyOk k = (decide (k.str = ⟨#[]⟩) && decide (-1000000000 ≤ k.num ∧ k.num ≤ 1000000000)) := by unfold keyOk; rw [ht]; rfl
    rw [e]
    simp only [go_sem, Nat.reduceBEq]
    refine Br.intro (fun h1 => ?_) (fun h1 => ?_) <;> (try simp only [h1, go_sem, Nat.reduceBEq])
    · (refine (iInRange _ _ _ _).mono ?_; rintro _ _ ⟨rfl, rfl⟩; simp only [go_sem, Nat.reduceBEq])
      exact ⟨by simp, Ext.refl _⟩
    · exact ⟨by simp, Ext.refl _⟩
  | true =>
    have e : keyOk k = (decide (k.num = 0) && (decide (k.str.size ≤ 400) && !canonB k.str)) := by unfold keyOk; rw [ht]; rfl
    rw [e]
    simp only [go_sem, Nat.reduceBEq]
    refine (iParseSigned k.str _ hE).mono ?_
    rintro _ h1 ⟨e1, n, rfl⟩
    simp only [go_sem, Nat.reduceBEq]
    refine Br.intro (fun h2 => ?_) (fun h2 => ?_) <;> (try simp only [h2, go_sem, Nat.reduceBEq])
    · refine Br.intro (fun h3 => ?_) (fun h3 => ?_) <;> (try simp only [h3, go_sem, Nat.reduceBEq])
      · have h3 := of_decide_eq_true h3
        exact ⟨by rw [decide_eq_true (show k.str.size ≤ 400 by omega)]; rfl, e1⟩
      · have h3 := of_decide_eq_false h3
        exact ⟨by rw [decide_eq_false (show ¬ k.str.size ≤ 400 by omega)]; rfl, e1⟩
    · exact ⟨rfl, e1⟩
theorem sIsKey (k : Ky) (h : Hp) (hs : k.str.size ≤ 1152921504606846976) : ACalls Tryz.prog 49 #[.agg #[.bool k.text, .int .i64 k.num, .string k.str]] h (Is (.bool (keyOk k)) h) := by
  (refine enter Tryz.func49 rfl rfl (by kernel_rfl) [] ?_; simp only [go_sem, Nat.reduceBEq])
  cases ht : k.text with
  | false =>
    have e : keyOk k = (decide (k.str = ⟨#[]⟩) && decide (-1000000000 ≤ k.num ∧ k.num ≤ 1000000000)) := by unfold keyOk; rw [ht]; rfl
    rw [e]
    simp only [go_sem, Nat.reduceBEq]
    (refine (l1In_c _ _ _ _).mono ?_; rintro _ _ ⟨rfl, rfl⟩; simp only [go_sem, Nat.reduceBEq])
    refine Br.intro (fun h1 => ?_) (fun h1 => ?_) <;> (try simp only [h1, go_sem, Nat.reduceBEq])
    · exact ⟨by simp, Ext.refl _⟩
    · exact ⟨by simp, Ext.refl _⟩
  | true =>
    have e : keyOk k = (decide (k.num = 0) && (decide (k.str.size ≤ 400) && !canonB k.str)) := by unfold keyOk; rw [ht]; rfl
    rw [e]
    simp only [go_sem, Nat.reduceBEq]
    refine (sParseSigned k.str _ hs).mono ?_
    rintro _ h1 ⟨e1, n, rfl⟩
    simp only [go_sem, Nat.reduceBEq]
    refine Br.intro (fun h2 => ?_) (fun h2 => ?_) <;> (try simp only [h2, go_sem, Nat.reduceBEq])
    · refine Br.intro (fun h3 => ?_) (fun h3 => ?_) <;> (try simp only [h3, go_sem, Nat.reduceBEq])
      · have h3 := of_decide_eq_true h3
        exact ⟨by rw [decide_eq_true (show k.str.size ≤ 400 by omega)]; rfl, e1⟩
      · have h3 := of_decide_eq_false h3
        exact ⟨by rw [decide_eq_false (show ¬ k.str.size ≤ 400 by omega)]; rfl, e1⟩
    · exact ⟨rfl, e1⟩
end Go.Proofs.YtccjkhnefiikaaaGreatDoor
namespace Go.Proofs.YtccjkhnefiikaaaGreatDoor
set_option maxRecDepth 8000
open Go Go.Sx
theorem bulk_in : ∀ {es : List (Ky × V)} {e : Ky × V}, e ∈ es → e.1.str.size + e.2.bulk + 1 ≤ V.bulks es
  | (k, v) :: r, e, he => by
    simp only [V.bulks]
    cases he with
    | head => simp only; omega
    | tail _ he => have := bulk_in he; omega
def WeiI (v : V) : Prop := v.bulk ≤ 1099511627776 → ∀ (sl : Value) (h : Hp), RdE h v.items sl → ACalls Tryz.prog 62 #[.agg #[.int .i64 v.kind, .int .i64 v.num, .string v.str, .int .i64 v.next, sl]] h (Pu (.int .i64 (v.weight : Nat)) h)
theorem iWeight : ∀ v, WeiI v := V.ind fun v ih hbk sl h rd => by
  have hB := V.bulk_eq v
  have hlen := V.bulks_len v.items
  have hwb := V.weights_bulk v.items
  obtain ⟨a, c, xs, rfl, hc, hr, hat⟩ := rd.rows (by decide) v.items.length (fm_len edt_len _)
  (refine enter Tryz.func62 rfl rfl (by kernel_rfl) [] ?_; simp only [go_sem, Nat.reduceBEq])
  refine Br.intro (fun hk => ?_) (fun hk => ?_) <;> (try simp only [hk, go_sem, Nat.reduceBEq])
  · have hk : v.kind = 4 := by simpa using hk
    have e0 : v.weight = 1 + V.weights v.items := by rw [V.weight_eq, if_pos hk]
    rw [e0]
    refine aloop (ι := Nat) (fun i => [(12, .val (.int .i64 (i : Nat))), (11, .val (.int .i64 (v.items.length : Nat))), (10, .val (.slice a v.items.length c)), (3, .val (.int .i64 ((1 + V.weights (v.items.take i) : Nat))))]) (fun _ => []) (fun i h' => i ≤ v.items.length ∧ h = h') (fun i => v.items.length - i) 0
      ⟨Nat.zero_le _, rfl⟩ (by simp only [List.take_zero, V.weights_nil]; exact (by repeat (first | exact wkF_e | refine wkF_c rfl ?_))) wkB_e rfl ?_
    rintro i _ ⟨hi, rfl⟩
    have hi : i ≤ v.items.length := hi
    have hwt := V.weights_take v.items i
    simp only [go_sem, Nat.reduceBEq]
    refine Br.intro (fun hb => ?_) (fun hb => ?_) <;> (try simp only [hb, go_sem, Nat.reduceBEq])
    · have hb : i < v.items.length := by simpa using hb
      obtain ⟨b, off, rfl, hat'⟩ := hat (by omega)
      obtain ⟨e, he, hm⟩ := get_lt hb
      have wsu := wrap_succ (i := i) (by omega)
      have hbe := bulk_in hm
      have hw2 := V.weight_bulk e.2
      have hsn := V.weights_snoc he
      simp only [ix_nat hb, go_sem, Nat.reduceBEq]
      refine hsem_entry tyS81 hat' hr he rfl fun s2 rd2 => ?_
      obtain ⟨a2, c2, _, rfl, _⟩ := rd2.rows (by decide) e.2.items.length (fm_len edt_len _)
      simp only [go_sem, Nat.reduceBEq, Nat.reduceAdd, Nat.reduceLeDiff]
      (refine (ih e hm (by omega) _ _ rd2).mono ?_; rintro _ _ ⟨rfl, rfl⟩; simp only [go_sem, Nat.reduceBEq])
      have hwr : IntKind.i64.wrap (((1 + V.weights (v.items.take i) : Nat) : Int) + (e.2.weight : Nat)) = ((1 + V.weights (v.items.take (i + 1)) : Nat) : Int) := by rw [hsn, IntWalk.i64_in _ (by omega)]; omega
      simp only [hwr, wsu, go_sem]
      exact Again.intro (i + 1) (by first | omega | (simp only; omega)) ⟨hb, rfl⟩ (by repeat (first | exact wkF_e | refine wkF_c rfl ?_)) wkB_e rfl
    · have hb : i = v.items.length := by simp at hb; omega
      subst hb
      rw [List.take_length]
      exact ⟨rfl, rfl⟩
  · have hk : ¬ v.kind = 4 := by simpa using hk
    exact ⟨by rw [V.weight_eq, if_neg hk]; rfl, rfl⟩
/-- the weight, or more than most -/
def Wei (v : V) (most : Nat) (h : Hp) (u : Value) (h' : Hp) : Prop := h = h' ∧ ∃ r : Nat, u = .int .i64 (r : Nat) ∧ r ≤ v.weight ∧ (r ≤ most → r = v.weight)
def WeiS (v : V) : Prop := v.bulk ≤ 1099511627776 → ∀ (most : Nat) (_ : most ≤ 1099511627776) (sl : Value) (h : Hp), RdE h v.items sl → ACalls Tryz.prog 70 #[.agg #[.int .i64 v.kind, .int .i64 v.num, .string v.str, .int .i64 v.next, sl], .int .i64 (most : Nat)] h (Wei v most h)
theorem sWeigh : ∀ v, WeiS v := V.ind fun v ih hbk most hmost sl h rd => by
  have hB := V.bulk_eq v
  have hlen := V.bulks_len v.items
  have hwb := V.weights_bulk v.items
  obtain ⟨a, c, xs, rfl, hc, hr, hat⟩ := rd.rows (by decide) v.items.length (fm_len edt_len _)
  (refine enter Tryz.func70 rfl rfl (by kernel_rfl) [] ?_; simp only [go_sem, Nat.reduceBEq])
  by_cases hk : v.kind = 4
  · have e0 : v.weight = 1 + V.weights v.items := by rw [V.weight_eq, if_pos hk]
    refine aloop (ι := Nat × Nat) (fun x => [(6, .val (.int .i64 (x.1 : Nat))), (5, .val (.int .i64 (x.2 : Nat))), (1, .val (.int .i64 (most : Nat))), (2, .box 2 0)]) (fun _ => [(2, [.int .i64 v.kind, .int .i64 v.num, .string v.str, .int .i64 v.next, .slice a v.items.length c])])
      (fun x h' => x.1 ≤ v.items.length ∧ x.2 ≤ 1 + V.weights (v.items.take x.1) ∧ (x.2 ≤ most → x.2 = 1 + V.weights (v.items.take x.1)) ∧ h = h') (fun x => v.items.length - x.1) (0, 1)
      ⟨Nat.zero_le _, by omega, fun _ => by simp [V.weights_nil], rfl⟩ (by repeat (first | exact wkF_e | refine wkF_c rfl ?_)) (wkB_c rfl wkB_e) rfl ?_
    rintro ⟨i, n⟩ _ ⟨hi, hn, hq, rfl⟩
    have hi : i ≤ v.items.length := hi
    have hn : n ≤ 1 + V.weights (v.items.take i) := hn
    have hq : n ≤ most → n = 1 + V.weights (v.items.take i) := hq
    have hwt := V.weights_take v.items i
    have dk : decide (v.kind = 4) = true := decide_eq_true hk
    simp only [dk, go_sem, Nat.reduceBEq]
    refine Br.intro (fun hb => ?_) (fun hb => ?_) <;> (try simp only [hb, go_sem, Nat.reduceBEq])
    · have hb : i < v.items.length := by simpa using hb
      refine Br.intro (fun hle => ?_) (fun hle => ?_) <;> (try simp only [hle, go_sem, Nat.reduceBEq])
      · have hle : n ≤ most := by have := of_decide_eq_true hle; omega
        obtain ⟨b, off, rfl, hat'⟩ := hat (by omega)
        obtain ⟨e, he, hm⟩ := get_lt hb
        have wsu := wrap_succ (i := i) (by omega)
        have hbe := bulk_in hm
        have hw2 := V.weight_bulk e.2
        have hsn := V.weights_snoc he
        have hn1 := hq hle
        have wsub : IntKind.i64.wrap ((most : Int) - (n : Int)) = ((most - n : Nat) : Int) := by rw [IntWalk.i64_in _ (by omega)]; omega
        simp only [ix_nat hb, go_sem, Nat.reduceBEq, Nat.reduceAdd]
        refine hsem_eval tyS49 hat' hr he rfl fun s2 rd2 => ?_
        obtain ⟨a2, c2, _, rfl, _⟩ := rd2.rows (by decide) e.2.items.length (fm_len edt_len _)
        simp only [wsub, go_sem, Nat.reduceBEq]
        refine (ih e hm (by omega) (most - n) (by omega) _ _ rd2).mono ?_
        rintro _ _ ⟨rfl, r, rfl, hr1, hr2⟩
        have hwr : IntKind.i64.wrap ((n : Int) + (r : Nat)) = ((n + r : Nat) : Int) := by rw [IntWalk.i64_in _ (by omega)]; rfl
        simp only [hwr, wsu, go_sem, Nat.reduceBEq]
        exact Again.intro (i + 1, n + r) (by first | omega | (simp only; omega)) ⟨hb, by simp only; omega, fun hx => by have hx : n + r ≤ most := hx; have := hr2 (by omega); simp only; omega, rfl⟩ (by repeat (first | exact wkF_e | refine wkF_c rfl ?_)) (wkB_c rfl wkB_e) rfl
      · have hle : ¬ n ≤ most := by have := of_decide_eq_false hle; omega
        exact ⟨rfl, n, rfl, by rw [e0]; omega, fun hx => absurd hx hle⟩
    · have hb : i = v.items.length := by simp at hb; omega
      subst hb
      rw [List.take_length] at hn hq
      exact ⟨rfl, n, rfl, by rw [e0]; omega, fun hx => by rw [e0]; exact hq hx⟩
  · have dk : decide (v.kind = 4) = false := decide_eq_false hk
    refine aloop (ι := Unit) (fun _ => [(6, .val (.int .i64 0)), (5, .val (.int .i64 1)), (1, .val (.int .i64 (most : Nat))), (2, .box 2 0)]) (fun _ => [(2, [.int .i64 v.kind, .int .i64 v.num, .string v.str, .int .i64 v.next, .slice a v.items.length c])]) (fun _ h' => h = h') (fun _ => 0) () rfl (by repeat (first | exact wkF_e | refine wkF_c rfl ?_)) (wkB_c rfl wkB_e) rfl ?_
    rintro _ _ rfl
    simp only [dk, go_sem, Nat.reduceBEq]
    have e0 : v.weight = 1 := by rw [V.weight_eq, if_neg hk]
    exact ⟨rfl, 1, rfl, by rw [e0]; exact Nat.le_refl _, fun _ => e0.symm⟩
theorem k9 (k : Int) : k = 0 ∨ k = 1 ∨ k = 2 ∨ k = 3 ∨ k = 4 ∨ k = 6 ∨ k = 7 ∨ k = 8 ∨ (¬ k = 0 ∧ ¬ k = 1 ∧ ¬ k = 2 ∧ ¬ k = 3 ∧ ¬ k = 4 ∧ ¬ k = 6 ∧ ¬ k = 7 ∧ ¬ k = 8) := by omega
def WfI (v : V) : Prop := v.bulk ≤ 1099511627776 → ∀ (sl : Value) (h : Hp), RdE h v.items sl → Env h → ACalls Tryz.prog 63 #[.agg #[.int .i64 v.kind, .int .i64 v.num, .string v.str, .int .i64 v.next, sl]] h (Is (.bool v.wf) h)
theorem iWell_0 (v : V) (sl : Value) (h : Hp) (rd : RdE h v.items sl) (ha : v.kind = 0) : ACalls Tryz.prog 63 #[.agg #[.int .i64 v.kind, .int .i64 v.num, .string v.str, .int .i64 v.next, sl]] h (Is (.bool v.wf) h) := by
  obtain ⟨a, c, xs, rfl, hc, hr, hat⟩ := rd.rows (by decide) v.items.length (fm_len edt_len _)
  have d0 : decide (v.kind = 0) = true := decide_eq_true (by omega)
  have d1 : decide (v.kind = 1) = false := decide_eq_false (by omega)
  have d2 : decide (v.kind = 2) = false := decide_eq_false (by omega)
  have d3 : decide (v.kind = 3) = false := decide_eq_false (by omega)
  have d4 : decide (v.kind = 4) = false := decide_eq_false (by omega)
  have d6 : decide (v.kind = 6) = false := decide_eq_false (by omega)
  have d7 : decide (v.kind = 7) = false := decide_eq_false (by omega)
  have d8 : decide (v.kind = 8) = false := decide_eq_false (by omega)
  rw [V.wf_eq]
  generalize wfEs v.next v.items [] = arr
  (refine enter Tryz.func63 rfl rfl (by kernel_rfl) [] ?_; simp only [go_sem, Nat.reduceBEq])
  simp only [d3, go_sem, Nat.reduceBEq]
  refine Br.intro (fun hs => ?_) (fun hs => ?_)
  · simp only [hs, go_sem, Nat.reduceBEq]
    have hs : ¬ v.str = ⟨#[]⟩ := by simpa using hs
    exact ⟨by simp [wf0, ha, hs], Ext.refl _⟩
  have hsr := hs
  have hs : v.str = ⟨#[]⟩ := by simpa using hs
  simp only [d4, hsr, go_sem, Nat.reduceBEq]
  refine Br.intro (fun hn => ?_) (fun hn => ?_)
  · simp only [hn, go_sem, Nat.reduceBEq]
    have hn : ¬ v.next = 0 := by simpa using hn
    exact ⟨by simp [wf0, ha, hs, hn], Ext.refl _⟩
  have hnr := hn
  have hn : v.next = 0 := by simpa using hn
  simp only [hnr, go_sem, Nat.reduceBEq]
  refine Br.intro (fun hl => ?_) (fun hl => ?_)
  · simp only [hl, go_sem, Nat.reduceBEq]
    have hl : 0 < v.items.length := by simpa using hl
    exact ⟨by simp [wf0, ha, hs, hn, hl], Ext.refl _⟩
  have hlr := hl
  have hl : ¬ 0 < v.items.length := by simpa using hl
  simp only [d0, hlr, go_sem, Nat.reduceBEq]
  have hl : v.items.length = 0 := by omega
  exact ⟨by simp [wf0, ha, hs, hn, hl], (Ext.refl _)⟩
theorem iWell_1 (v : V) (sl : Value) (h : Hp) (rd : RdE h v.items sl) (ha : v.kind = 1) : ACalls Tryz.prog 63 #[.agg #[.int .i64 v.kind, .int .i64 v.num, .string v.str, .int .i64 v.next, sl]] h (Is (.bool v.wf) h) := by
  obtain ⟨a, c, xs, rfl, hc, hr, hat⟩ := rd.rows (by decide) v.items.length (fm_len edt_len _)
  have d0 : decide (v.kind = 0) = false := decide_eq_false (by omega)
  have d1 : decide (v.kind = 1) = true := decide_eq_true (by omega)
  have d2 : decide (v.kind = 2) = false := decide_eq_false (by omega)
  have d3 : decide (v.kind = 3) = false := decide_eq_false (by omega)
  have d4 : decide (v.kind = 4) = false := decide_eq_false (by omega)
  have d6 : decide (v.kind = 6) = false := decide_eq_false (by omega)
  have d7 : decide (v.kind = 7) = false := decide_eq_false (by omega)
  have d8 : decide (v.kind = 8) = false := decide_eq_false (by omega)
  rw [V.wf_eq]
  generalize wfEs v.next v.items [] = arr
  (refine enter Tryz.func63 rfl rfl (by kernel_rfl) [] ?_; simp only [go_sem, Nat.reduceBEq])
  simp only [d3, go_sem, Nat.reduceBEq]
  refine Br.intro (fun hs => ?_) (fun hs => ?_)
  · simp only [hs, go_sem, Nat.reduceBEq]
    have hs : ¬ v.str = ⟨#[]⟩ := by simpa using hs
    exact ⟨by simp [wf0, ha, hs], Ext.refl _⟩
  have hsr := hs
  have hs : v.str = ⟨#[]⟩ := by simpa using hs
  simp only [d4, hsr, go_sem, Nat.reduceBEq]
  refine Br.intro (fun hn => ?_) (fun hn => ?_)
  · simp only [hn, go_sem, Nat.reduceBEq]
    have hn : ¬ v.next = 0 := by simpa using hn
    exact ⟨by simp [wf0, ha, hs, hn], Ext.refl _⟩
  have hnr := hn
  have hn : v.next = 0 := by simpa using hn
  simp only [hnr, go_sem, Nat.reduceBEq]
  refine Br.intro (fun hl => ?_) (fun hl => ?_)
  · simp only [hl, go_sem, Nat.reduceBEq]
    have hl : 0 < v.items.length := by simpa using hl
    exact ⟨by simp [wf0, ha, hs, hn, hl], Ext.refl _⟩
  have hlr := hl
  have hl : ¬ 0 < v.items.length := by simpa using hl
  simp only [d0, d1, hlr, go_sem, Nat.reduceBEq]
  have hl : v.items.length = 0 := by omega
  refine Br.intro (fun hq => ?_) (fun hq => ?_)
  · simp only [hq, go_sem, Nat.reduceBEq]
    have hq : v.num = 0 := by simpa using hq
    exact ⟨by simp [wf0, ha, hs, hn, hl, hq], Ext.refl _⟩
  · simp only [hq, go_sem, Nat.reduceBEq]
    have hq : ¬ v.num = 0 := by simpa using hq
    have hq2 : decide (0 ≤ v.num ∧ v.num ≤ 1) = decide (v.num = 1) := decide_eq_decide.2 (by omega)
    have hq3 : wf0 v arr = decide (v.num = 1) := by rw [← hq2]; simp [wf0, ha, hs, hn, hl]
    exact ⟨by rw [hq3], Ext.refl _⟩
theorem iWell_2 (v : V) (sl : Value) (h : Hp) (rd : RdE h v.items sl) (ha : v.kind = 2) : ACalls Tryz.prog 63 #[.agg #[.int .i64 v.kind, .int .i64 v.num, .string v.str, .int .i64 v.next, sl]] h (Is (.bool v.wf) h) := by
  obtain ⟨a, c, xs, rfl, hc, hr, hat⟩ := rd.rows (by decide) v.items.length (fm_len edt_len _)
  have d0 : decide (v.kind = 0) = false := decide_eq_false (by omega)
  have d1 : decide (v.kind = 1) = false := decide_eq_false (by omega)
  have d2 : decide (v.kind = 2) = true := decide_eq_true (by omega)
  have d3 : decide (v.kind = 3) = false := decide_eq_false (by omega)
  have d4 : decide (v.kind = 4) = false := decide_eq_false (by omega)
  have d6 : decide (v.kind = 6) = false := decide_eq_false (by omega)
  have d7 : decide (v.kind = 7) = false := decide_eq_false (by omega)
  have d8 : decide (v.kind = 8) = false := decide_eq_false (by omega)
  rw [V.wf_eq]
  generalize wfEs v.next v.items [] = arr
  (refine enter Tryz.func63 rfl rfl (by kernel_rfl) [] ?_; simp only [go_sem, Nat.reduceBEq])
  simp only [d3, go_sem, Nat.reduceBEq]
  refine Br.intro (fun hs => ?_) (fun hs => ?_)
  · simp only [hs, go_sem, Nat.reduceBEq]
    have hs : ¬ v.str = ⟨#[]⟩ := by simpa using hs
    exact ⟨by simp [wf0, ha, hs], Ext.refl _⟩
  have hsr := hs
  have hs : v.str = ⟨#[]⟩ := by simpa using hs
  simp only [d4, hsr, go_sem, Nat.reduceBEq]
  refine Br.intro (fun hn => ?_) (fun hn => ?_)
  · simp only [hn, go_sem, Nat.reduceBEq]
    have hn : ¬ v.next = 0 := by simpa using hn
    exact ⟨by simp [wf0, ha, hs, hn], Ext.refl _⟩
  have hnr := hn
  have hn : v.next = 0 := by simpa using hn
  simp only [hnr, go_sem, Nat.reduceBEq]
  refine Br.intro (fun hl => ?_) (fun hl => ?_)
  · simp only [hl, go_sem, Nat.reduceBEq]
    have hl : 0 < v.items.length := by simpa using hl
    exact ⟨by simp [wf0, ha, hs, hn, hl], Ext.refl _⟩
  have hlr := hl
  have hl : ¬ 0 < v.items.length := by simpa using hl
  simp only [d0, d1, d2, hlr, go_sem, Nat.reduceBEq]
  have hl : v.items.length = 0 := by omega
  (refine (iInRange _ _ _ _).mono ?_; rintro _ _ ⟨rfl, rfl⟩; simp only [go_sem, Nat.reduceBEq])
  exact ⟨by simp [wf0, ha, hs, hn, hl], (Ext.refl _)⟩
theorem iWell_3 (v : V) (sl : Value) (h : Hp) (rd : RdE h v.items sl) (ha : v.kind = 3) : ACalls Tryz.prog 63 #[.agg #[.int .i64 v.kind, .int .i64 v.num, .string v.str, .int .i64 v.next, sl]] h (Is (.bool v.wf) h) := by
  obtain ⟨a, c, xs, rfl, hc, hr, hat⟩ := rd.rows (by decide) v.items.length (fm_len edt_len _)
  have d0 : decide (v.kind = 0) = false := decide_eq_false (by omega)
  have d1 : decide (v.kind = 1) = false := decide_eq_false (by omega)
  have d2 : decide (v.kind = 2) = false := decide_eq_false (by omega)
  have d3 : decide (v.kind = 3) = true := decide_eq_true (by omega)
  have d4 : decide (v.kind = 4) = false := decide_eq_false (by omega)
  have d6 : decide (v.kind = 6) = false := decide_eq_false (by omega)
  have d7 : decide (v.kind = 7) = false := decide_eq_false (by omega)
  have d8 : decide (v.kind = 8) = false := decide_eq_false (by omega)
  rw [V.wf_eq]
  generalize wfEs v.next v.items [] = arr
  (refine enter Tryz.func63 rfl rfl (by kernel_rfl) [] ?_; simp only [go_sem, Nat.reduceBEq])
  simp only [d3, d4, go_sem, Nat.reduceBEq]
  refine Br.intro (fun hn => ?_) (fun hn => ?_)
  · simp only [hn, go_sem, Nat.reduceBEq]
    have hn : ¬ v.next = 0 := by simpa using hn
    exact ⟨by simp [wf0, ha, hn], Ext.refl _⟩
  have hnr := hn
  have hn : v.next = 0 := by simpa using hn
  simp only [hnr, go_sem, Nat.reduceBEq]
  refine Br.intro (fun hl => ?_) (fun hl => ?_)
  · simp only [hl, go_sem, Nat.reduceBEq]
    have hl : 0 < v.items.length := by simpa using hl
    exact ⟨by simp [wf0, ha, hn, hl], Ext.refl _⟩
  have hlr := hl
  have hl : ¬ 0 < v.items.length := by simpa using hl
  simp only [d0, d1, d2, d3, hlr, go_sem, Nat.reduceBEq]
  have hl : v.items.length = 0 := by omega
  refine Br.intro (fun hq => ?_) (fun hq => ?_)
  · simp only [hq, go_sem, Nat.reduceBEq]
    have hq : v.num = 0 := by simpa using hq
    have hq3 : wf0 v arr = decide ((v.str.size : Int) ≤ 400) := by rw [show decide ((v.str.size : Int) ≤ 400) = decide (v.str.size ≤ 400) from decide_eq_decide.2 (by omega)]; simp [wf0, ha, hn, hl, hq]
    exact ⟨by rw [hq3], Ext.refl _⟩
  · simp only [hq, go_sem, Nat.reduceBEq]
    have hq : ¬ v.num = 0 := by simpa using hq
    exact ⟨by simp [wf0, ha, hn, hl, hq], Ext.refl _⟩
set_option maxHeartbeats 800000 in
theorem iWell_4 (v : V) (ih : ∀ e ∈ v.items, WfI e.2) (hbk : v.bulk ≤ 1099511627776) (sl : Value) (h : Hp) (rd : RdE h v.items sl) (hE : Env h) (ha : v.kind = 4) : ACalls Tryz.prog 63 #[.agg #[.int .i64 v.kind, .int .i64 v.num, .string v.str, .int .i64 v.next, sl]] h (Is (.bool v.wf) h) := by
  obtain ⟨a, c, xs, rfl, hc, hr, hat⟩ := rd.rows (by decide) v.items.length (fm_len edt_len _)
  have d0 : decide (v.kind = 0) = false := decide_eq_false (by omega)
  have d1 : decide (v.kind = 1) = false := decide_eq_false (by omega)
  have d2 : decide (v.kind = 2) = false := decide_eq_false (by omega)
  have d3 : decide (v.kind = 3) = false := decide_eq_false (by omega)
  have d4 : decide (v.kind = 4) = true := decide_eq_true (by omega)
  have d6 : decide (v.kind = 6) = false := decide_eq_false (by omega)
  have d7 : decide (v.kind = 7) = false := decide_eq_false (by omega)
  have d8 : decide (v.kind = 8) = false := decide_eq_false (by omega)
  rw [V.wf_eq]
  (refine enter Tryz.func63 rfl rfl (by kernel_rfl) [] ?_; simp only [go_sem, Nat.reduceBEq])
  simp only [d3, go_sem, Nat.reduceBEq]
  refine Br.intro (fun hs => ?_) (fun hs => ?_)
  · simp only [hs, go_sem, Nat.reduceBEq]
    have hs : ¬ v.str = ⟨#[]⟩ := by simpa using hs
    exact ⟨by simp [wf0, ha, hs], Ext.refl _⟩
  have hsr := hs
  have hs : v.str = ⟨#[]⟩ := by simpa using hs
  simp only [d0, d1, d2, d3, d4, d6, d7, d8, hsr, go_sem, Nat.reduceBEq]
  have hB := V.bulk_eq v
  have hlen := V.bulks_len v.items
  refine Br.intro (fun hz => ?_) (fun hz => ?_)
  · simp only [hz, go_sem, Nat.reduceBEq]
    have hz : ¬ v.num = 0 := by simpa using hz
    exact ⟨by simp [wf0, ha, hs, hz], Ext.refl _⟩
  have hzr := hz
  have hz : v.num = 0 := by simpa using hz
  simp only [hzr, go_sem, Nat.reduceBEq]
  (refine (iInRange _ _ _ _).mono ?_; rintro _ _ ⟨rfl, rfl⟩; simp only [go_sem, Nat.reduceBEq])
  refine Br.intro (fun hx => ?_) (fun hx => ?_)
  · simp only [hx, go_sem, Nat.reduceBEq]
    have hx : decide (0 ≤ v.next ∧ v.next ≤ 1000000001) = false := by simpa only [Bool.not_eq_true'] using hx
    have e0 : wf0 v (wfEs v.next v.items []) = false := by simp only [wf0, hx, ha, hs, hz]; simp
    exact ⟨by rw [e0], Ext.refl _⟩
  simp only [hx, go_sem]
  have hx : decide (0 ≤ v.next ∧ v.next ≤ 1000000001) = true := by simpa only [Bool.not_eq_false'] using hx
  have e0 : wf0 v (wfEs v.next v.items []) = wfEs v.next v.items [] := by simp only [wf0, hx, ha, hs, hz]; simp
  rw [e0]
  refine hsem_mk_map fun bm hbn om em => ?_
  generalize hset h bm (.map #[] 0) = h0 at om em ⊢
  simp only [go_sem, Nat.reduceBEq]
  refine aloop (ι := Nat) (fun i => [(85, .val (.int .i64 (i : Nat))), (84, .val (.int .i64 (v.items.length : Nat))), (83, .val (.slice a v.items.length c)), (3, .val (.map (some bm))), (1, .box 1 0)]) (fun _ => [(1, [.int .i64 v.kind, .int .i64 v.num, .string v.str, .int .i64 v.next, .slice a v.items.length c])])
    (fun i h' => i ≤ v.items.length ∧ OwM h' bm ((v.items.take i).map (·.1)) ∧ Ext h h' ∧ wfEs v.next (v.items.drop i) ((v.items.take i).map (·.1)) = wfEs v.next v.items []) (fun i => v.items.length - i) 0 ⟨Nat.zero_le _, om, em, rfl⟩ (by repeat (first | exact wkF_e | refine wkF_c rfl ?_)) (wkB_c rfl wkB_e) rfl ?_
  rintro i h1 ⟨hi, o1, e1, hq⟩
  have hi : i ≤ v.items.length := hi
  simp only [go_sem, Nat.reduceBEq]
  refine Br.intro (fun hb => ?_) (fun hb => ?_) <;> (try simp only [hb, go_sem, Nat.reduceBEq, Nat.reduceEqDiff])
  case refine_2 =>
    have hb : i = v.items.length := by simp at hb; omega
    rw [List.drop_eq_nil_of_le (by omega), wfEs_nil] at hq
    exact ⟨by rw [← hq], e1⟩
  have hb : i < v.items.length := by simpa using hb
  obtain ⟨b, off, rfl, hat'⟩ := hat (by omega)
  obtain ⟨e, he, hm⟩ := get_lt hb
  have wsu := wrap_succ (i := i) (by omega)
  have hbe := bulk_in hm
  rw [drop_cons he, wfEs_cons] at hq
  simp only [ix_nat hb, go_sem, Nat.reduceBEq]
  refine hsem_entry tyS81 (hat'.mono e1) (hr.mono e1) he rfl fun s2 rd2 => ?_
  obtain ⟨a2, c2, _, rfl, _⟩ := rd2.rows (by decide) e.2.items.length (fm_len edt_len _)
  simp only [go_sem, Nat.reduceBEq, Nat.reduceAdd, Nat.reduceLeDiff]
  refine (iIsKey e.1 _ (hE.ext e1)).mono ?_
  rintro _ h2 ⟨rfl, e2⟩
  have e12 := e1.trans e2
  cases hk : keyOk e.1 with
  | false =>
    simp only [go_sem, Nat.reduceBEq]
    exact ⟨by rw [← hq, hk]; simp, e12⟩
  | true =>
    simp only [go_sem, Nat.reduceBEq, Nat.reduceAdd, Nat.reduceLeDiff]
    have o2 := o1.ext e2
    refine hsem_map_has (by kernel_rfl) o2 e.1 ?_
    by_cases hm1 : e.1 ∈ (v.items.take i).map (·.1)
    · have hmd := decide_eq_true hm1
      simp only [hmd, go_sem, Nat.reduceBEq]
      exact ⟨by rw [← hq, hmd]; simp, e12⟩
    have hmd := decide_eq_false hm1
    simp only [hmd, go_sem, Nat.reduceBEq]
    by_cases ht : e.1.text = true
    case pos =>
      have hnx : (!e.1.text && decide (v.next ≤ e.1.num)) = false := by rw [ht]; rfl
      have nt : (!e.1.text) = false := by rw [ht]; rfl
      simp only [nt, go_sem, Nat.reduceBEq, Nat.reduceAdd, Nat.reduceLeDiff]
      refine (ih e hm (by omega) _ _ (rd2.mono e2) (hE.ext e12)).mono ?_
      rintro _ h3 ⟨rfl, e3⟩
      have e13 := e12.trans e3
      cases hw : e.2.wf with
      | false =>
        simp only [go_sem, Nat.reduceBEq]
        exact ⟨by rw [← hq, hw]; simp, e13⟩
      | true =>
        simp only [go_sem, Nat.reduceBEq, Nat.reduceAdd, Nat.reduceLeDiff]
        have hts : (v.items.take (i + 1)).map (·.1) = (v.items.take i).map (·.1) ++ [e.1] := by rw [take_snoc he, List.map_append]; rfl
        refine hsem_map_add (by kernel_rfl) (o2.ext e3) e.1 hm1 fun h4 o4 b4 => ?_
        have e4 : Ext h h4 := b4.ext e13 (by simpa using hbn)
        simp only [wsu, go_sem, Nat.reduceBEq]
        refine Again.intro (i + 1) (by first | omega | (simp only; omega)) ⟨hb, by rw [hts]; exact o4, e4, ?_⟩ (by repeat (first | exact wkF_e | refine wkF_c rfl ?_)) (wkB_c rfl wkB_e) rfl
        rw [hts, ← hq, hk, hmd, hnx, hw]
        simp
    case neg =>
      have ht : e.1.text = false := by simpa using ht
      have nt : (!e.1.text) = true := by rw [ht]; rfl
      simp only [nt, go_sem, Nat.reduceBEq]
      by_cases hg : v.next ≤ e.1.num
      · have dg := decide_eq_true hg
        simp only [dg, go_sem, Nat.reduceBEq]
        exact ⟨by rw [← hq, ht, dg]; simp, e12⟩
      have dg := decide_eq_false hg
      have hnx : (!e.1.text && decide (v.next ≤ e.1.num)) = false := by rw [ht, dg]; rfl
      simp only [dg, go_sem, Nat.reduceBEq, Nat.reduceAdd, Nat.reduceLeDiff]
      refine (ih e hm (by omega) _ _ (rd2.mono e2) (hE.ext e12)).mono ?_
      rintro _ h3 ⟨rfl, e3⟩
      have e13 := e12.trans e3
      cases hw : e.2.wf with
      | false =>
        simp only [go_sem, Nat.reduceBEq]
        exact ⟨by rw [← hq, hw]; simp, e13⟩
      | true =>
        simp only [go_sem, Nat.reduceBEq, Nat.reduceAdd, Nat.reduceLeDiff]
        have hts : (v.items.take (i + 1)).map (·.1) = (v.items.take i).map (·.1) ++ [e.1] := by rw [take_snoc he, List.map_append]; rfl
        refine hsem_map_add (by kernel_rfl) (o2.ext e3) e.1 hm1 fun h4 o4 b4 => ?_
        have e4 : Ext h h4 := b4.ext e13 (by simpa using hbn)
        simp only [wsu, go_sem, Nat.reduceBEq]
        refine Again.intro (i + 1) (by first | omega | (simp only; omega)) ⟨hb, by rw [hts]; exact o4, e4, ?_⟩ (by repeat (first | exact wkF_e | refine wkF_c rfl ?_)) (wkB_c rfl wkB_e) rfl
        rw [hts, ← hq, hk, hmd, hnx, hw]
        simp
theorem iWell_6 (v : V) (sl : Value) (h : Hp) (rd : RdE h v.items sl) (ha : v.kind = 6) : ACalls Tryz.prog 63 #[.agg #[.int .i64 v.kind, .int .i64 v.num, .string v.str, .int .i64 v.next, sl]] h (Is (.bool v.wf) h) := by
  obtain ⟨a, c, xs, rfl, hc, hr, hat⟩ := rd.rows (by decide) v.items.length (fm_len edt_len _)
  have d0 : decide (v.kind = 0) = false := decide_eq_false (by omega)
  have d1 : decide (v.kind = 1) = false := decide_eq_false (by omega)
  have d2 : decide (v.kind = 2) = false := decide_eq_false (by omega)
  have d3 : decide (v.kind = 3) = false := decide_eq_false (by omega)
  have d4 : decide (v.kind = 4) = false := decide_eq_false (by omega)
  have d6 : decide (v.kind = 6) = true := decide_eq_true (by omega)
  have d7 : decide (v.kind = 7) = false := decide_eq_false (by omega)
  have d8 : decide (v.kind = 8) = false := decide_eq_false (by omega)
  rw [V.wf_eq]
  generalize wfEs v.next v.items [] = arr
  (refine enter Tryz.func63 rfl rfl (by kernel_rfl) [] ?_; simp only [go_sem, Nat.reduceBEq])
  simp only [d3, go_sem, Nat.reduceBEq]
  refine Br.intro (fun hs => ?_) (fun hs => ?_)
  · simp only [hs, go_sem, Nat.reduceBEq]
    have hs : ¬ v.str = ⟨#[]⟩ := by simpa using hs
    exact ⟨by simp [wf0, ha, hs], Ext.refl _⟩
  have hsr := hs
  have hs : v.str = ⟨#[]⟩ := by simpa using hs
  simp only [d4, hsr, go_sem, Nat.reduceBEq]
  refine Br.intro (fun hn => ?_) (fun hn => ?_)
  · simp only [hn, go_sem, Nat.reduceBEq]
    have hn : ¬ v.next = 0 := by simpa using hn
    exact ⟨by simp [wf0, ha, hs, hn], Ext.refl _⟩
  have hnr := hn
  have hn : v.next = 0 := by simpa using hn
  simp only [hnr, go_sem, Nat.reduceBEq]
  refine Br.intro (fun hl => ?_) (fun hl => ?_)
  · simp only [hl, go_sem, Nat.reduceBEq]
    have hl : 0 < v.items.length := by simpa using hl
    exact ⟨by simp [wf0, ha, hs, hn, hl], Ext.refl _⟩
  have hlr := hl
  have hl : ¬ 0 < v.items.length := by simpa using hl
  simp only [d0, d1, d2, d3, d6, hlr, go_sem, Nat.reduceBEq]
  have hl : v.items.length = 0 := by omega
  (refine (iInRange _ _ _ _).mono ?_; rintro _ _ ⟨rfl, rfl⟩; simp only [go_sem, Nat.reduceBEq])
  exact ⟨by simp [wf0, ha, hs, hn, hl], (Ext.refl _)⟩
theorem iWell_7 (v : V) (sl : Value) (h : Hp) (rd : RdE h v.items sl) (ha : v.kind = 7) : ACalls Tryz.prog 63 #[.agg #[.int .i64 v.kind, .int .i64 v.num, .string v.str, .int .i64 v.next, sl]] h (Is (.bool v.wf) h) := by
  obtain ⟨a, c, xs, rfl, hc, hr, hat⟩ := rd.rows (by decide) v.items.length (fm_len edt_len _)
  have d0 : decide (v.kind = 0) = false := decide_eq_false (by omega)
  have d1 : decide (v.kind = 1) = false := decide_eq_false (by omega)
  have d2 : decide (v.kind = 2) = false := decide_eq_false (by omega)
  have d3 : decide (v.kind = 3) = false := decide_eq_false (by omega)
  have d4 : decide (v.kind = 4) = false := decide_eq_false (by omega)
  have d6 : decide (v.kind = 6) = false := decide_eq_false (by omega)
  have d7 : decide (v.kind = 7) = true := decide_eq_true (by omega)
  have d8 : decide (v.kind = 8) = false := decide_eq_false (by omega)
  rw [V.wf_eq]
  generalize wfEs v.next v.items [] = arr
  (refine enter Tryz.func63 rfl rfl (by kernel_rfl) [] ?_; simp only [go_sem, Nat.reduceBEq])
  simp only [d3, go_sem, Nat.reduceBEq]
  refine Br.intro (fun hs => ?_) (fun hs => ?_)
  · simp only [hs, go_sem, Nat.reduceBEq]
    have hs : ¬ v.str = ⟨#[]⟩ := by simpa using hs
    exact ⟨by simp [wf0, ha, hs], Ext.refl _⟩
  have hsr := hs
  have hs : v.str = ⟨#[]⟩ := by simpa using hs
  simp only [d4, hsr, go_sem, Nat.reduceBEq]
  refine Br.intro (fun hn => ?_) (fun hn => ?_)
  · simp only [hn, go_sem, Nat.reduceBEq]
    have hn : ¬ v.next = 0 := by simpa using hn
    exact ⟨by simp [wf0, ha, hs, hn], Ext.refl _⟩
  have hnr := hn
  have hn : v.next = 0 := by simpa using hn
  simp only [hnr, go_sem, Nat.reduceBEq]
  refine Br.intro (fun hl => ?_) (fun hl => ?_)
  · simp only [hl, go_sem, Nat.reduceBEq]
    have hl : 0 < v.items.length := by simpa using hl
    exact ⟨by simp [wf0, ha, hs, hn, hl], Ext.refl _⟩
  have hlr := hl
  have hl : ¬ 0 < v.items.length := by simpa using hl
  simp only [d0, d1, d2, d3, d6, d7, hlr, go_sem, Nat.reduceBEq]
  have hl : v.items.length = 0 := by omega
  (refine (iInRange _ _ _ _).mono ?_; rintro _ _ ⟨rfl, rfl⟩; simp only [go_sem, Nat.reduceBEq])
  exact ⟨by simp [wf0, ha, hs, hn, hl], (Ext.refl _)⟩
theorem iWell_8 (v : V) (sl : Value) (h : Hp) (rd : RdE h v.items sl) (ha : v.kind = 8) : ACalls Tryz.prog 63 #[.agg #[.int .i64 v.kind, .int .i64 v.num, .string v.str, .int .i64 v.next, sl]] h (Is (.bool v.wf) h) := by
  obtain ⟨a, c, xs, rfl, hc, hr, hat⟩ := rd.rows (by decide) v.items.length (fm_len edt_len _)
  have d0 : decide (v.kind = 0) = false := decide_eq_false (by omega)
  have d1 : decide (v.kind = 1) = false := decide_eq_false (by omega)
  have d2 : decide (v.kind = 2) = false := decide_eq_false (by omega)
  have d3 : decide (v.kind = 3) = false := decide_eq_false (by omega)
  have d4 : decide (v.kind = 4) = false := decide_eq_false (by omega)
  have d6 : decide (v.kind = 6) = false := decide_eq_false (by omega)
  have d7 : decide (v.kind = 7) = false := decide_eq_false (by omega)
  have d8 : decide (v.kind = 8) = true := decide_eq_true (by omega)
  rw [V.wf_eq]
  generalize wfEs v.next v.items [] = arr
  (refine enter Tryz.func63 rfl rfl (by kernel_rfl) [] ?_; simp only [go_sem, Nat.reduceBEq])
  simp only [d3, go_sem, Nat.reduceBEq]
  refine Br.intro (fun hs => ?_) (fun hs => ?_)
  · simp only [hs, go_sem, Nat.reduceBEq]
    have hs : ¬ v.str = ⟨#[]⟩ := by simpa using hs
    exact ⟨by simp [wf0, ha, hs], Ext.refl _⟩
  have hsr := hs
  have hs : v.str = ⟨#[]⟩ := by simpa using hs
  simp only [d4, hsr, go_sem, Nat.reduceBEq]
  refine Br.intro (fun hn => ?_) (fun hn => ?_)
  · simp only [hn, go_sem, Nat.reduceBEq]
    have hn : ¬ v.next = 0 := by simpa using hn
    exact ⟨by simp [wf0, ha, hs, hn], Ext.refl _⟩
  have hnr := hn
  have hn : v.next = 0 := by simpa using hn
  simp only [hnr, go_sem, Nat.reduceBEq]
  refine Br.intro (fun hl => ?_) (fun hl => ?_)
  · simp only [hl, go_sem, Nat.reduceBEq]
    have hl : 0 < v.items.length := by simpa using hl
    exact ⟨by simp [wf0, ha, hs, hn, hl], Ext.refl _⟩
  have hlr := hl
  have hl : ¬ 0 < v.items.length := by simpa using hl
  simp only [d0, d1, d2, d3, d6, d7, d8, hlr, go_sem, Nat.reduceBEq]
  have hl : v.items.length = 0 := by omega
  (refine (iInRange _ _ _ _).mono ?_; rintro _ _ ⟨rfl, rfl⟩; simp only [go_sem, Nat.reduceBEq])
  exact ⟨by simp [wf0, ha, hs, hn, hl], (Ext.refl _)⟩
theorem iWell_o (v : V) (sl : Value) (h : Hp) (rd : RdE h v.items sl) (ha : ¬ v.kind = 0 ∧ ¬ v.kind = 1 ∧ ¬ v.kind = 2 ∧ ¬ v.kind = 3 ∧ ¬ v.kind = 4 ∧ ¬ v.kind = 6 ∧ ¬ v.kind = 7 ∧ ¬ v.kind = 8) : ACalls Tryz.prog 63 #[.agg #[.int .i64 v.kind, .int .i64 v.num, .string v.str, .int .i64 v.next, sl]] h (Is (.bool v.wf) h) := by
  obtain ⟨a, c, xs, rfl, hc, hr, hat⟩ := rd.rows (by decide) v.items.length (fm_len edt_len _)
  have d0 : decide (v.kind = 0) = false := decide_eq_false (by omega)
  have d1 : decide (v.kind = 1) = false := decide_eq_false (by omega)
  have d2 : decide (v.kind = 2) = false := decide_eq_false (by omega)
  have d3 : decide (v.kind = 3) = false := decide_eq_false (by omega)
  have d4 : decide (v.kind = 4) = false := decide_eq_false (by omega)
  have d6 : decide (v.kind = 6) = false := decide_eq_false (by omega)
  have d7 : decide (v.kind = 7) = false := decide_eq_false (by omega)
  have d8 : decide (v.kind = 8) = false := decide_eq_false (by omega)
  obtain ⟨a0, a1, a2, a3, a4, a6, a7, a8⟩ := ha
  rw [V.wf_eq]
  generalize wfEs v.next v.items [] = arr
  (refine enter Tryz.func63 rfl rfl (by kernel_rfl) [] ?_; simp only [go_sem, Nat.reduceBEq])
  simp only [d3, go_sem, Nat.reduceBEq]
  refine Br.intro (fun hs => ?_) (fun hs => ?_)
  · simp only [hs, go_sem, Nat.reduceBEq]
    have hs : ¬ v.str = ⟨#[]⟩ := by simpa using hs
    exact ⟨by simp [wf0, a0, a1, a2, a3, a4, a6, a7, a8, hs], Ext.refl _⟩
  have hsr := hs
  have hs : v.str = ⟨#[]⟩ := by simpa using hs
  simp only [d4, hsr, go_sem, Nat.reduceBEq]
  refine Br.intro (fun hn => ?_) (fun hn => ?_)
  · simp only [hn, go_sem, Nat.reduceBEq]
    have hn : ¬ v.next = 0 := by simpa using hn
    exact ⟨by simp [wf0, a0, a1, a2, a3, a4, a6, a7, a8, hs, hn], Ext.refl _⟩
  have hnr := hn
  have hn : v.next = 0 := by simpa using hn
  simp only [hnr, go_sem, Nat.reduceBEq]
  refine Br.intro (fun hl => ?_) (fun hl => ?_)
  · simp only [hl, go_sem, Nat.reduceBEq]
    have hl : 0 < v.items.length := by simpa using hl
    exact ⟨by simp [wf0, a0, a1, a2, a3, a4, a6, a7, a8, hs, hn, hl], Ext.refl _⟩
  have hlr := hl
  have hl : ¬ 0 < v.items.length := by simpa using hl
  simp only [d0, d1, d2, d3, d4, d6, d7, d8, hlr, go_sem, Nat.reduceBEq]
  have hl : v.items.length = 0 := by omega
  exact ⟨by simp [wf0, a0, a1, a2, a3, a4, a6, a7, a8, hs, hn, hl], (Ext.refl _)⟩
theorem iWell : ∀ v, WfI v := V.ind fun v ih hbk sl h rd hE => by
  rcases k9 v.kind with ha | ha | ha | ha | ha | ha | ha | ha | ha
  · exact iWell_0 v sl h rd ha
  · exact iWell_1 v sl h rd ha
  · exact iWell_2 v sl h rd ha
  · exact iWell_3 v sl h rd ha
  · exact iWell_4 v ih hbk sl h rd hE ha
  · exact iWell_6 v sl h rd ha
  · exact iWell_7 v sl h rd ha
  · exact iWell_8 v sl h rd ha
  · exact iWell_o v sl h rd ha
def WfS (v : V) : Prop := v.bulk ≤ 1099511627776 → ∀ (sl : Value) (h : Hp), RdE h v.items sl → ACalls Tryz.prog 29 #[.agg #[.int .i64 v.kind, .int .i64 v.num, .string v.str, .int .i64 v.next, sl]] h (Is (.bool v.wf) h)
theorem sWell_0 (v : V) (sl : Value) (h : Hp) (rd : RdE h v.items sl) (ha : v.kind = 0) : ACalls Tryz.prog 29 #[.agg #[.int .i64 v.kind, .int .i64 v.num, .string v.str, .int .i64 v.next, sl]] h (Is (.bool v.wf) h) := by
  obtain ⟨a, c, xs, rfl, hc, hr, hat⟩ := rd.rows (by decide) v.items.length (fm_len edt_len _)
  have d0 : decide (v.kind = 0) = true := decide_eq_true (by omega)
  have d1 : decide (v.kind = 1) = false := decide_eq_false (by omega)
  have d2 : decide (v.kind = 2) = false := decide_eq_false (by omega)
  have d3 : decide (v.kind = 3) = false := decide_eq_false (by omega)
  have d4 : decide (v.kind = 4) = false := decide_eq_false (by omega)
  have d6 : decide (v.kind = 6) = false := decide_eq_false (by omega)
  have d7 : decide (v.kind = 7) = false := decide_eq_false (by omega)
  have d8 : decide (v.kind = 8) = false := decide_eq_false (by omega)
  rw [V.wf_eq]
  generalize wfEs v.next v.items [] = arr
  (refine enter Tryz.func29 rfl rfl (by kernel_rfl) [] ?_; simp only [go_sem, Nat.reduceBEq])
  simp only [d3, go_sem, Nat.reduceBEq]
  refine Br.intro (fun hs => ?_) (fun hs => ?_)
  · simp only [hs, go_sem, Nat.reduceBEq]
    have hs : ¬ v.str = ⟨#[]⟩ := by simpa using hs
    exact ⟨by simp [wf0, ha, hs], Ext.refl _⟩
  have hsr := hs
  have hs : v.str = ⟨#[]⟩ := by simpa using hs
  simp only [d4, hsr, go_sem, Nat.reduceBEq]
  refine Br.intro (fun hn => ?_) (fun hn => ?_)
  · simp only [hn, go_sem, Nat.reduceBEq]
    have hn : ¬ v.next = 0 := by simpa using hn
    exact ⟨by simp [wf0, ha, hs, hn], Ext.refl _⟩
  have hnr := hn
  have hn : v.next = 0 := by simpa using hn
  simp only [hnr, go_sem, Nat.reduceBEq]
  refine Br.intro (fun hl => ?_) (fun hl => ?_)
  · simp only [hl, go_sem, Nat.reduceBEq]
    have hl : 0 < v.items.length := by simpa using hl
    exact ⟨by simp [wf0, ha, hs, hn, hl], Ext.refl _⟩
  have hlr := hl
  have hl : ¬ 0 < v.items.length := by simpa using hl
  simp only [d0, hlr, go_sem, Nat.reduceBEq]
  have hl : v.items.length = 0 := by omega
  exact ⟨by simp [wf0, ha, hs, hn, hl], (Ext.refl _)⟩
theorem sWell_1 (v : V) (sl : Value) (h : Hp) (rd : RdE h v.items sl) (ha : v.kind = 1) : ACalls Tryz.prog 29 #[.agg #[.int .i64 v.kind, .int .i64 v.num, .string v.str, .int .i64 v.next, sl]] h (Is (.bool v.wf) h) := by
  obtain ⟨a, c, xs, rfl, hc, hr, hat⟩ := rd.rows (by decide) v.items.length (fm_len edt_len _)
  have d0 : decide (v.kind = 0) = false := decide_eq_false (by omega)
  have d1 : decide (v.kind = 1) = true := decide_eq_true (by omega)
  have d2 : decide (v.kind = 2) = false := decide_eq_false (by omega)
  have d3 : decide (v.kind = 3) = false := decide_eq_false (by omega)
  have d4 : decide (v.kind = 4) = false := decide_eq_false (by omega)
  have d6 : decide (v.kind = 6) = false := decide_eq_false (by omega)
  have d7 : decide (v.kind = 7) = false := decide_eq_false (by omega)
  have d8 : decide (v.kind = 8) = false := decide_eq_false (by omega)
  rw [V.wf_eq]
  generalize wfEs v.next v.items [] = arr
  (refine enter Tryz.func29 rfl rfl (by kernel_rfl) [] ?_; simp only [go_sem, Nat.reduceBEq])
  simp only [d3, go_sem, Nat.reduceBEq]
  refine Br.intro (fun hs => ?_) (fun hs => ?_)
  · simp only [hs, go_sem, Nat.reduceBEq]
    have hs : ¬ v.str = ⟨#[]⟩ := by simpa using hs
    exact ⟨by simp [wf0, ha, hs], Ext.refl _⟩
  have hsr := hs
  have hs : v.str = ⟨#[]⟩ := by simpa using hs
  simp only [d4, hsr, go_sem, Nat.reduceBEq]
  refine Br.intro (fun hn => ?_) (fun hn => ?_)
  · simp only [hn, go_sem, Nat.reduceBEq]
    have hn : ¬ v.next = 0 := by simpa using hn
    exact ⟨by simp [wf0, ha, hs, hn], Ext.refl _⟩
  have hnr := hn
  have hn : v.next = 0 := by simpa using hn
  simp only [hnr, go_sem, Nat.reduceBEq]
  refine Br.intro (fun hl => ?_) (fun hl => ?_)
  · simp only [hl, go_sem, Nat.reduceBEq]
    have hl : 0 < v.items.length := by simpa using hl
    exact ⟨by simp [wf0, ha, hs, hn, hl], Ext.refl _⟩
  have hlr := hl
  have hl : ¬ 0 < v.items.length := by simpa using hl
  simp only [d0, d1, hlr, go_sem, Nat.reduceBEq]
  have hl : v.items.length = 0 := by omega
  (refine (l1In_c _ _ _ _).mono ?_; rintro _ _ ⟨rfl, rfl⟩; simp only [go_sem, Nat.reduceBEq])
  exact ⟨by simp [wf0, ha, hs, hn, hl], (Ext.refl _)⟩
theorem sWell_2 (v : V) (sl : Value) (h : Hp) (rd : RdE h v.items sl) (ha : v.kind = 2) : ACalls Tryz.prog 29 #[.agg #[.int .i64 v.kind, .int .i64 v.num, .string v.str, .int .i64 v.next, sl]] h (Is (.bool v.wf) h) := by
  obtain ⟨a, c, xs, rfl, hc, hr, hat⟩ := rd.rows (by decide) v.items.length (fm_len edt_len _)
  have d0 : decide (v.kind = 0) = false := decide_eq_false (by omega)
  have d1 : decide (v.kind = 1) = false := decide_eq_false (by omega)
  have d2 : decide (v.kind = 2) = true := decide_eq_true (by omega)
  have d3 : decide (v.kind = 3) = false := decide_eq_false (by omega)
  have d4 : decide (v.kind = 4) = false := decide_eq_false (by omega)
  have d6 : decide (v.kind = 6) = false := decide_eq_false (by omega)
  have d7 : decide (v.kind = 7) = false := decide_eq_false (by omega)
  have d8 : decide (v.kind = 8) = false := decide_eq_false (by omega)
  rw [V.wf_eq]
  generalize wfEs v.next v.items [] = arr
  (refine enter Tryz.func29 rfl rfl (by kernel_rfl) [] ?_; simp only [go_sem, Nat.reduceBEq])
  simp only [d3, go_sem, Nat.reduceBEq]
  refine Br.intro (fun hs => ?_) (fun hs => ?_)
  · simp only [hs, go_sem, Nat.reduceBEq]
    have hs : ¬ v.str = ⟨#[]⟩ := by simpa using hs
    exact ⟨by simp [wf0, ha, hs], Ext.refl _⟩
  have hsr := hs
  have hs : v.str = ⟨#[]⟩ := by simpa using hs
  simp only [d4, hsr, go_sem, Nat.reduceBEq]
  refine Br.intro (fun hn => ?_) (fun hn => ?_)
  · simp only [hn, go_sem, Nat.reduceBEq]
    have hn : ¬ v.next = 0 := by simpa using hn
    exact ⟨by simp [wf0, ha, hs, hn], Ext.refl _⟩
  have hnr := hn
  have hn : v.next = 0 := by simpa using hn
  simp only [hnr, go_sem, Nat.reduceBEq]
  refine Br.intro (fun hl => ?_) (fun hl => ?_)
  · simp only [hl, go_sem, Nat.reduceBEq]
    have hl : 0 < v.items.length := by simpa using hl
    exact ⟨by simp [wf0, ha, hs, hn, hl], Ext.refl _⟩
  have hlr := hl
  have hl : ¬ 0 < v.items.length := by simpa using hl
  simp only [d0, d1, d2, hlr, go_sem, Nat.reduceBEq]
  have hl : v.items.length = 0 := by omega
  (refine (l1In_c _ _ _ _).mono ?_; rintro _ _ ⟨rfl, rfl⟩; simp only [go_sem, Nat.reduceBEq])
  exact ⟨by simp [wf0, ha, hs, hn, hl], (Ext.refl _)⟩
theorem sWell_3 (v : V) (sl : Value) (h : Hp) (rd : RdE h v.items sl) (ha : v.kind = 3) : ACalls Tryz.prog 29 #[.agg #[.int .i64 v.kind, .int .i64 v.num, .string v.str, .int .i64 v.next, sl]] h (Is (.bool v.wf) h) := by
  obtain ⟨a, c, xs, rfl, hc, hr, hat⟩ := rd.rows (by decide) v.items.length (fm_len edt_len _)
  have d0 : decide (v.kind = 0) = false := decide_eq_false (by omega)
  have d1 : decide (v.kind = 1) = false := decide_eq_false (by omega)
  have d2 : decide (v.kind = 2) = false := decide_eq_false (by omega)
  have d3 : decide (v.kind = 3) = true := decide_eq_true (by omega)
  have d4 : decide (v.kind = 4) = false := decide_eq_false (by omega)
  have d6 : decide (v.kind = 6) = false := decide_eq_false (by omega)
  have d7 : decide (v.kind = 7) = false := decide_eq_false (by omega)
  have d8 : decide (v.kind = 8) = false := decide_eq_false (by omega)
  rw [V.wf_eq]
  generalize wfEs v.next v.items [] = arr
  (refine enter Tryz.func29 rfl rfl (by kernel_rfl) [] ?_; simp only [go_sem, Nat.reduceBEq])
  simp only [d3, d4, go_sem, Nat.reduceBEq]
  refine Br.intro (fun hn => ?_) (fun hn => ?_)
  · simp only [hn, go_sem, Nat.reduceBEq]
    have hn : ¬ v.next = 0 := by simpa using hn
    exact ⟨by simp [wf0, ha, hn], Ext.refl _⟩
  have hnr := hn
  have hn : v.next = 0 := by simpa using hn
  simp only [hnr, go_sem, Nat.reduceBEq]
  refine Br.intro (fun hl => ?_) (fun hl => ?_)
  · simp only [hl, go_sem, Nat.reduceBEq]
    have hl : 0 < v.items.length := by simpa using hl
    exact ⟨by simp [wf0, ha, hn, hl], Ext.refl _⟩
  have hlr := hl
  have hl : ¬ 0 < v.items.length := by simpa using hl
  simp only [d0, d1, d2, d3, hlr, go_sem, Nat.reduceBEq]
  have hl : v.items.length = 0 := by omega
  refine Br.intro (fun hq => ?_) (fun hq => ?_)
  · simp only [hq, go_sem, Nat.reduceBEq]
    have hq : v.num = 0 := by simpa using hq
    have hq3 : wf0 v arr = decide ((v.str.size : Int) ≤ 400) := by rw [show decide ((v.str.size : Int) ≤ 400) = decide (v.str.size ≤ 400) from decide_eq_decide.2 (by omega)]; simp [wf0, ha, hn, hl, hq]
    exact ⟨by rw [hq3], Ext.refl _⟩
  · simp only [hq, go_sem, Nat.reduceBEq]
    have hq : ¬ v.num = 0 := by simpa using hq
    exact ⟨by simp [wf0, ha, hn, hl, hq], Ext.refl _⟩
set_option maxHeartbeats 800000 in
theorem sWell_4 (v : V) (ih : ∀ e ∈ v.items, WfS e.2) (hbk : v.bulk ≤ 1099511627776) (sl : Value) (h : Hp) (rd : RdE h v.items sl) (ha : v.kind = 4) : ACalls Tryz.prog 29 #[.agg #[.int .i64 v.kind, .int .i64 v.num, .string v.str, .int .i64 v.next, sl]] h (Is (.bool v.wf) h) := by
  obtain ⟨a, c, xs, rfl, hc, hr, hat⟩ := rd.rows (by decide) v.items.length (fm_len edt_len _)
  have d0 : decide (v.kind = 0) = false := decide_eq_false (by omega)
  have d1 : decide (v.kind = 1) = false := decide_eq_false (by omega)
  have d2 : decide (v.kind = 2) = false := decide_eq_false (by omega)
  have d3 : decide (v.kind = 3) = false := decide_eq_false (by omega)
  have d4 : decide (v.kind = 4) = true := decide_eq_true (by omega)
  have d6 : decide (v.kind = 6) = false := decide_eq_false (by omega)
  have d7 : decide (v.kind = 7) = false := decide_eq_false (by omega)
  have d8 : decide (v.kind = 8) = false := decide_eq_false (by omega)
  rw [V.wf_eq]
  (refine enter Tryz.func29 rfl rfl (by kernel_rfl) [] ?_; simp only [go_sem, Nat.reduceBEq])
  simp only [d3, go_sem, Nat.reduceBEq]
  refine Br.intro (fun hs => ?_) (fun hs => ?_)
  · simp only [hs, go_sem, Nat.reduceBEq]
    have hs : ¬ v.str = ⟨#[]⟩ := by simpa using hs
    exact ⟨by simp [wf0, ha, hs], Ext.refl _⟩
  have hsr := hs
  have hs : v.str = ⟨#[]⟩ := by simpa using hs
  simp only [d0, d1, d2, d3, d4, d6, d7, d8, hsr, go_sem, Nat.reduceBEq]
  have hB := V.bulk_eq v
  have hlen := V.bulks_len v.items
  refine Br.intro (fun hz => ?_) (fun hz => ?_)
  · simp only [hz, go_sem, Nat.reduceBEq]
    have hz : ¬ v.num = 0 := by simpa using hz
    exact ⟨by simp [wf0, ha, hs, hz], Ext.refl _⟩
  have hzr := hz
  have hz : v.num = 0 := by simpa using hz
  simp only [hzr, go_sem, Nat.reduceBEq]
  (refine (l1In_c _ _ _ _).mono ?_; rintro _ _ ⟨rfl, rfl⟩; simp only [go_sem, Nat.reduceBEq])
  refine Br.intro (fun hx => ?_) (fun hx => ?_)
  · simp only [hx, go_sem, Nat.reduceBEq]
    have hx : decide (0 ≤ v.next ∧ v.next ≤ 1000000001) = false := by simpa only [Bool.not_eq_true'] using hx
    have e0 : wf0 v (wfEs v.next v.items []) = false := by simp only [wf0, hx, ha, hs, hz]; simp
    exact ⟨by rw [e0], Ext.refl _⟩
  simp only [hx, go_sem]
  have hx : decide (0 ≤ v.next ∧ v.next ≤ 1000000001) = true := by simpa only [Bool.not_eq_false'] using hx
  have e0 : wf0 v (wfEs v.next v.items []) = wfEs v.next v.items [] := by simp only [wf0, hx, ha, hs, hz]; simp
  rw [e0]
  refine aloop (ι := Nat) (fun i => [(3, .val (.int .i64 (i : Nat))), (1, .box 1 0)]) (fun _ => [(1, [.int .i64 v.kind, .int .i64 v.num, .string v.str, .int .i64 v.next, .slice a v.items.length c])])
    (fun i h' => i ≤ v.items.length ∧ Ext h h' ∧ wfEs v.next (v.items.drop i) ((v.items.take i).map (·.1)) = wfEs v.next v.items []) (fun i => v.items.length - i) 0 ⟨Nat.zero_le _, Ext.refl _, rfl⟩ (by repeat (first | exact wkF_e | refine wkF_c rfl ?_)) (wkB_c rfl wkB_e) rfl ?_
  rintro i h1 ⟨hi, e1, hq⟩
  have hi : i ≤ v.items.length := hi
  simp only [go_sem, Nat.reduceBEq]
  refine Br.intro (fun hb => ?_) (fun hb => ?_) <;> (try simp only [hb, go_sem, Nat.reduceBEq, Nat.reduceEqDiff])
  case refine_2 =>
    have hb : i = v.items.length := by simp at hb; omega
    rw [List.drop_eq_nil_of_le (by omega), wfEs_nil] at hq
    exact ⟨by rw [← hq], e1⟩
  have hb : i < v.items.length := by simpa using hb
  obtain ⟨b, off, rfl, hat'⟩ := hat (by omega)
  obtain ⟨e, he, hm⟩ := get_lt hb
  have wsu := wrap_succ (i := i) (by omega)
  have hbe := bulk_in hm
  rw [drop_cons he, wfEs_cons] at hq
  simp only [ix_nat hb, go_sem, Nat.reduceBEq]
  refine hsem_ekey tyS57 (hat'.mono e1) (hr.mono e1) he rfl ?_
  simp only [go_sem, Nat.reduceBEq, Nat.reduceAdd, Nat.reduceLeDiff]
  refine (sIsKey e.1 _ (by omega)).mono ?_
  rintro _ h2 ⟨rfl, e2⟩
  have e12 := e1.trans e2
  cases hk : keyOk e.1 with
  | false =>
    simp only [go_sem, Nat.reduceBEq]
    exact ⟨by rw [← hq, hk]; simp, e12⟩
  | true =>
    simp only [go_sem, Nat.reduceBEq]
    by_cases ht : e.1.text = true
    case pos =>
      have hnx : (!e.1.text && decide (v.next ≤ e.1.num)) = false := by rw [ht]; rfl
      have nt : (!e.1.text) = false := by rw [ht]; rfl
      simp only [nt, go_sem, Nat.reduceBEq, Nat.reduceAdd, Nat.reduceLeDiff]
      have hlf : v.find e.1 = fk v.items e.1 0 := by unfold V.find; rw [if_pos ha]
      obtain ⟨j, hj1, hj2⟩ := fk_at he
      rw [hj1] at hlf
      refine (sFind v e.1 (by omega) _ _ (rd.mono e12)).mono ?_
      rintro _ _ ⟨rfl, rfl⟩
      rw [hlf, ixI_some]
      simp only [go_sem, Nat.reduceBEq]
      by_cases hm1 : e.1 ∈ (v.items.take i).map (·.1)
      · have dm : decide ((j : Int) = (i : Int)) = false := decide_eq_false fun k => hj2.1 (by omega) hm1
        have hmd := decide_eq_true hm1
        simp only [dm, go_sem, Nat.reduceBEq]
        exact ⟨by rw [← hq, hmd]; simp, e12⟩
      have dm : decide ((j : Int) = (i : Int)) = true := decide_eq_true (by have := hj2.2 hm1; omega)
      have hmd := decide_eq_false hm1
      simp only [dm, go_sem, Nat.reduceBEq]
      simp only [ix_nat hb, go_sem, Nat.reduceBEq, Nat.reduceAdd]
      refine hsem_eval tyS49 (hat'.mono e12) (hr.mono e12) he rfl fun s2 rd2 => ?_
      obtain ⟨a2, c2, _, rfl, _⟩ := rd2.rows (by decide) e.2.items.length (fm_len edt_len _)
      simp only [go_sem, Nat.reduceBEq]
      refine (ih e hm (by omega) _ _ rd2).mono ?_
      rintro _ h3 ⟨rfl, e3⟩
      have e13 := e12.trans e3
      cases hw : e.2.wf with
      | false =>
        simp only [go_sem, Nat.reduceBEq]
        exact ⟨by rw [← hq, hw]; simp, e13⟩
      | true =>
        simp only [go_sem, Nat.reduceBEq]
        have hts : (v.items.take (i + 1)).map (·.1) = (v.items.take i).map (·.1) ++ [e.1] := by rw [take_snoc he, List.map_append]; rfl
        try simp only [wsu, go_sem]
        refine Again.intro (i + 1) (by first | omega | (simp only; omega)) ⟨hb, e13, ?_⟩ (by repeat (first | exact wkF_e | refine wkF_c rfl ?_)) (wkB_c rfl wkB_e) rfl
        rw [hts, ← hq, hk, hmd, hnx, hw]
        simp
    case neg =>
      have ht : e.1.text = false := by simpa using ht
      have nt : (!e.1.text) = true := by rw [ht]; rfl
      simp only [nt, go_sem, Nat.reduceBEq]
      by_cases hg : v.next ≤ e.1.num
      · have dg := decide_eq_true hg
        simp only [dg, go_sem, Nat.reduceBEq]
        exact ⟨by rw [← hq, ht, dg]; simp, e12⟩
      have dg := decide_eq_false hg
      have hnx : (!e.1.text && decide (v.next ≤ e.1.num)) = false := by rw [ht, dg]; rfl
      simp only [dg, go_sem, Nat.reduceBEq, Nat.reduceAdd, Nat.reduceLeDiff]
      have hlf : v.find e.1 = fk v.items e.1 0 := by unfold V.find; rw [if_pos ha]
      obtain ⟨j, hj1, hj2⟩ := fk_at he
      rw [hj1] at hlf
      refine (sFind v e.1 (by omega) _ _ (rd.mono e12)).mono ?_
      rintro _ _ ⟨rfl, rfl⟩
      rw [hlf, ixI_some]
      simp only [go_sem, Nat.reduceBEq]
      by_cases hm1 : e.1 ∈ (v.items.take i).map (·.1)
      · have dm : decide ((j : Int) = (i : Int)) = false := decide_eq_false fun k => hj2.1 (by omega) hm1
        have hmd := decide_eq_true hm1
        simp only [dm, go_sem, Nat.reduceBEq]
        exact ⟨by rw [← hq, hmd]; simp, e12⟩
      have dm : decide ((j : Int) = (i : Int)) = true := decide_eq_true (by have := hj2.2 hm1; omega)
      have hmd := decide_eq_false hm1
      simp only [dm, go_sem, Nat.reduceBEq]
      simp only [ix_nat hb, go_sem, Nat.reduceBEq, Nat.reduceAdd]
      refine hsem_eval tyS49 (hat'.mono e12) (hr.mono e12) he rfl fun s2 rd2 => ?_
      obtain ⟨a2, c2, _, rfl, _⟩ := rd2.rows (by decide) e.2.items.length (fm_len edt_len _)
      simp only [go_sem, Nat.reduceBEq]
      refine (ih e hm (by omega) _ _ rd2).mono ?_
      rintro _ h3 ⟨rfl, e3⟩
      have e13 := e12.trans e3
      cases hw : e.2.wf with
      | false =>
        simp only [go_sem, Nat.reduceBEq]
        exact ⟨by rw [← hq, hw]; simp, e13⟩
      | true =>
        simp only [go_sem, Nat.reduceBEq]
        have hts : (v.items.take (i + 1)).map (·.1) = (v.items.take i).map (·.1) ++ [e.1] := by rw [take_snoc he, List.map_append]; rfl
        try simp only [wsu, go_sem]
        refine Again.intro (i + 1) (by first | omega | (simp only; omega)) ⟨hb, e13, ?_⟩ (by repeat (first | exact wkF_e | refine wkF_c rfl ?_)) (wkB_c rfl wkB_e) rfl
        rw [hts, ← hq, hk, hmd, hnx, hw]
        simp
theorem sWell_6 (v : V) (sl : Value) (h : Hp) (rd : RdE h v.items sl) (ha : v.kind = 6) : ACalls Tryz.prog 29 #[.agg #[.int .i64 v.kind, .int .i64 v.num, .string v.str, .int .i64 v.next, sl]] h (Is (.bool v.wf) h) := by
  obtain ⟨a, c, xs, rfl, hc, hr, hat⟩ := rd.rows (by decide) v.items.length (fm_len edt_len _)
  have d0 : decide (v.kind = 0) = false := decide_eq_false (by omega)
  have d1 : decide (v.kind = 1) = false := decide_eq_false (by omega)
  have d2 : decide (v.kind = 2) = false := decide_eq_false (by omega)
  have d3 : decide (v.kind = 3) = false := decide_eq_false (by omega)
  have d4 : decide (v.kind = 4) = false := decide_eq_false (by omega)
  have d6 : decide (v.kind = 6) = true := decide_eq_true (by omega)
  have d7 : decide (v.kind = 7) = false := decide_eq_false (by omega)
  have d8 : decide (v.kind = 8) = false := decide_eq_false (by omega)
  rw [V.wf_eq]
  generalize wfEs v.next v.items [] = arr
  (refine enter Tryz.func29 rfl rfl (by kernel_rfl) [] ?_; simp only [go_sem, Nat.reduceBEq])
  simp only [d3, go_sem, Nat.reduceBEq]
  refine Br.intro (fun hs => ?_) (fun hs => ?_)
  · simp only [hs, go_sem, Nat.reduceBEq]
    have hs : ¬ v.str = ⟨#[]⟩ := by simpa using hs
    exact ⟨by simp [wf0, ha, hs], Ext.refl _⟩
  have hsr := hs
  have hs : v.str = ⟨#[]⟩ := by simpa using hs
  simp only [d4, hsr, go_sem, Nat.reduceBEq]
  refine Br.intro (fun hn => ?_) (fun hn => ?_)
  · simp only [hn, go_sem, Nat.reduceBEq]
    have hn : ¬ v.next = 0 := by simpa using hn
    exact ⟨by simp [wf0, ha, hs, hn], Ext.refl _⟩
  have hnr := hn
  have hn : v.next = 0 := by simpa using hn
  simp only [hnr, go_sem, Nat.reduceBEq]
  refine Br.intro (fun hl => ?_) (fun hl => ?_)
  · simp only [hl, go_sem, Nat.reduceBEq]
    have hl : 0 < v.items.length := by simpa using hl
    exact ⟨by simp [wf0, ha, hs, hn, hl], Ext.refl _⟩
  have hlr := hl
  have hl : ¬ 0 < v.items.length := by simpa using hl
  simp only [d0, d1, d2, d3, d6, hlr, go_sem, Nat.reduceBEq]
  have hl : v.items.length = 0 := by omega
  (refine (l1In_c _ _ _ _).mono ?_; rintro _ _ ⟨rfl, rfl⟩; simp only [go_sem, Nat.reduceBEq])
  exact ⟨by simp [wf0, ha, hs, hn, hl], (Ext.refl _)⟩
theorem sWell_7 (v : V) (sl : Value) (h : Hp) (rd : RdE h v.items sl) (ha : v.kind = 7) : ACalls Tryz.prog 29 #[.agg #[.int .i64 v.kind, .int .i64 v.num, .string v.str, .int .i64 v.next, sl]] h (Is (.bool v.wf) h) := by
  obtain ⟨a, c, xs, rfl, hc, hr, hat⟩ := rd.rows (by decide) v.items.length (fm_len edt_len _)
  have d0 : decide (v.kind = 0) = false := decide_eq_false (by omega)
  have d1 : decide (v.kind = 1) = false := decide_eq_false (by omega)
  have d2 : decide (v.kind = 2) = false := decide_eq_false (by omega)
  have d3 : decide (v.kind = 3) = false := decide_eq_false (by omega)
  have d4 : decide (v.kind = 4) = false := decide_eq_false (by omega)
  have d6 : decide (v.kind = 6) = false := decide_eq_false (by omega)
  have d7 : decide (v.kind = 7) = true := decide_eq_true (by omega)
  have d8 : decide (v.kind = 8) = false := decide_eq_false (by omega)
  rw [V.wf_eq]
  generalize wfEs v.next v.items [] = arr
  (refine enter Tryz.func29 rfl rfl (by kernel_rfl) [] ?_; simp only [go_sem, Nat.reduceBEq])
  simp only [d3, go_sem, Nat.reduceBEq]
  refine Br.intro (fun hs => ?_) (fun hs => ?_)
  · simp only [hs, go_sem, Nat.reduceBEq]
    have hs : ¬ v.str = ⟨#[]⟩ := by simpa using hs
    exact ⟨by simp [wf0, ha, hs], Ext.refl _⟩
  have hsr := hs
  have hs : v.str = ⟨#[]⟩ := by simpa using hs
  simp only [d4, hsr, go_sem, Nat.reduceBEq]
  refine Br.intro (fun hn => ?_) (fun hn => ?_)
  · simp only [hn, go_sem, Nat.reduceBEq]
    have hn : ¬ v.next = 0 := by simpa using hn
    exact ⟨by simp [wf0, ha, hs, hn], Ext.refl _⟩
  have hnr := hn
  have hn : v.next = 0 := by simpa using hn
  simp only [hnr, go_sem, Nat.reduceBEq]
  refine Br.intro (fun hl => ?_) (fun hl => ?_)
  · simp only [hl, go_sem, Nat.reduceBEq]
    have hl : 0 < v.items.length := by simpa using hl
    exact ⟨by simp [wf0, ha, hs, hn, hl], Ext.refl _⟩
  have hlr := hl
  have hl : ¬ 0 < v.items.length := by simpa using hl
  simp only [d0, d1, d2, d3, d6, d7, hlr, go_sem, Nat.reduceBEq]
  have hl : v.items.length = 0 := by omega
  (refine (l1In_c _ _ _ _).mono ?_; rintro _ _ ⟨rfl, rfl⟩; simp only [go_sem, Nat.reduceBEq])
  exact ⟨by simp [wf0, ha, hs, hn, hl], (Ext.refl _)⟩
theorem sWell_8 (v : V) (sl : Value) (h : Hp) (rd : RdE h v.items sl) (ha : v.kind = 8) : ACalls Tryz.prog 29 #[.agg #[.int .i64 v.kind, .int .i64 v.num, .string v.str, .int .i64 v.next, sl]] h (Is (.bool v.wf) h) := by
  obtain ⟨a, c, xs, rfl, hc, hr, hat⟩ := rd.rows (by decide) v.items.length (fm_len edt_len _)
  have d0 : decide (v.kind = 0) = false := decide_eq_false (by omega)
  have d1 : decide (v.kind = 1) = false := decide_eq_false (by omega)
  have d2 : decide (v.kind = 2) = false := decide_eq_false (by omega)
  have d3 : decide (v.kind = 3) = false := decide_eq_false (by omega)
  have d4 : decide (v.kind = 4) = false := decide_eq_false (by omega)
  have d6 : decide (v.kind = 6) = false := decide_eq_false (by omega)
  have d7 : decide (v.kind = 7) = false := decide_eq_false (by omega)
  have d8 : decide (v.kind = 8) = true := decide_eq_true (by omega)
  rw [V.wf_eq]
  generalize wfEs v.next v.items [] = arr
  (refine enter Tryz.func29 rfl rfl (by kernel_rfl) [] ?_; simp only [go_sem, Nat.reduceBEq])
  simp only [d3, go_sem, Nat.reduceBEq]
  refine Br.intro (fun hs => ?_) (fun hs => ?_)
  · simp only [hs, go_sem, Nat.reduceBEq]
    have hs : ¬ v.str = ⟨#[]⟩ := by simpa using hs
    exact ⟨by simp [wf0, ha, hs], Ext.refl _⟩
  have hsr := hs
  have hs : v.str = ⟨#[]⟩ := by simpa using hs
  simp only [d4, hsr, go_sem, Nat.reduceBEq]
  refine Br.intro (fun hn => ?_) (fun hn => ?_)
  · simp only [hn, go_sem, Nat.reduceBEq]
    have hn : ¬ v.next = 0 := by simpa using hn
    exact ⟨by simp [wf0, ha, hs, hn], Ext.refl _⟩
  have hnr := hn
  have hn : v.next = 0 := by simpa using hn
  simp only [hnr, go_sem, Nat.reduceBEq]
  refine Br.intro (fun hl => ?_) (fun hl => ?_)
  · simp only [hl, go_sem, Nat.reduceBEq]
    have hl : 0 < v.items.length := by simpa using hl
    exact ⟨by simp [wf0, ha, hs, hn, hl], Ext.refl _⟩
  have hlr := hl
  have hl : ¬ 0 < v.items.length := by simpa using hl
  simp only [d0, d1, d2, d3, d6, d7, d8, hlr, go_sem, Nat.reduceBEq]
  have hl : v.items.length = 0 := by omega
  (refine (l1In_c _ _ _ _).mono ?_; rintro _ _ ⟨rfl, rfl⟩; simp only [go_sem, Nat.reduceBEq])
  exact ⟨by simp [wf0, ha, hs, hn, hl], (Ext.refl _)⟩
theorem sWell_o (v : V) (sl : Value) (h : Hp) (rd : RdE h v.items sl) (ha : ¬ v.kind = 0 ∧ ¬ v.kind = 1 ∧ ¬ v.kind = 2 ∧ ¬ v.kind = 3 ∧ ¬ v.kind = 4 ∧ ¬ v.kind = 6 ∧ ¬ v.kind = 7 ∧ ¬ v.kind = 8) : ACalls Tryz.prog 29 #[.agg #[.int .i64 v.kind, .int .i64 v.num, .string v.str, .int .i64 v.next, sl]] h (Is (.bool v.wf) h) := by
  obtain ⟨a, c, xs, rfl, hc, hr, hat⟩ := rd.rows (by decide) v.items.length (fm_len edt_len _)
  have d0 : decide (v.kind = 0) = false := decide_eq_false (by omega)
  have d1 : decide (v.kind = 1) = false := decide_eq_false (by omega)
  have d2 : decide (v.kind = 2) = false := decide_eq_false (by omega)
  have d3 : decide (v.kind = 3) = false := decide_eq_false (by omega)
  have d4 : decide (v.kind = 4) = false := decide_eq_false (by omega)
  have d6 : decide (v.kind = 6) = false := decide_eq_false (by omega)
  have d7 : decide (v.kind = 7) = false := decide_eq_false (by omega)
  have d8 : decide (v.kind = 8) = false := decide_eq_false (by omega)
  obtain ⟨a0, a1, a2, a3, a4, a6, a7, a8⟩ := ha
  rw [V.wf_eq]
  generalize wfEs v.next v.items [] = arr
  (refine enter Tryz.func29 rfl rfl (by kernel_rfl) [] ?_; simp only [go_sem, Nat.reduceBEq])
  simp only [d3, go_sem, Nat.reduceBEq]
  refine Br.intro (fun hs => ?_) (fun hs => ?_)
  · simp only [hs, go_sem, Nat.reduceBEq]
    have hs : ¬ v.str = ⟨#[]⟩ := by simpa using hs
    exact ⟨by simp [wf0, a0, a1, a2, a3, a4, a6, a7, a8, hs], Ext.refl _⟩
  have hsr := hs
  have hs : v.str = ⟨#[]⟩ := by simpa using hs
  simp only [d4, hsr, go_sem, Nat.reduceBEq]
  refine Br.intro (fun hn => ?_) (fun hn => ?_)
  · simp only [hn, go_sem, Nat.reduceBEq]
    have hn : ¬ v.next = 0 := by simpa using hn
    exact ⟨by simp [wf0, a0, a1, a2, a3, a4, a6, a7, a8, hs, hn], Ext.refl _⟩
  have hnr := hn
  have hn : v.next = 0 := by simpa using hn
  simp only [hnr, go_sem, Nat.reduceBEq]
  refine Br.intro (fun hl => ?_) (fun hl => ?_)
  · simp only [hl, go_sem, Nat.reduceBEq]
    have hl : 0 < v.items.length := by simpa using hl
    exact ⟨by simp [wf0, a0, a1, a2, a3, a4, a6, a7, a8, hs, hn, hl], Ext.refl _⟩
  have hlr := hl
  have hl : ¬ 0 < v.items.length := by simpa using hl
  simp only [d0, d1, d2, d3, d4, d6, d7, d8, hlr, go_sem, Nat.reduceBEq]
  have hl : v.items.length = 0 := by omega
  exact ⟨by simp [wf0, a0, a1, a2, a3, a4, a6, a7, a8, hs, hn, hl], (Ext.refl _)⟩
theorem sWell : ∀ v, WfS v := V.ind fun v ih hbk sl h rd => by
  rcases k9 v.kind with ha | ha | ha | ha | ha | ha | ha | ha | ha
  · exact sWell_0 v sl h rd ha
  · exact sWell_1 v sl h rd ha
  · exact sWell_2 v sl h rd ha
  · exact sWell_3 v sl h rd ha
  · exact sWell_4 v ih hbk sl h rd ha
  · exact sWell_6 v sl h rd ha
  · exact sWell_7 v sl h rd ha
  · exact sWell_8 v sl h rd ha
  · exact sWell_o v sl h rd ha
theorem iIsValue (v : V) (hb : v.bulk ≤ 1099511627776) (sl : Value) (h : Hp) (rd : RdE h v.items sl) (hE : Env h) : ACalls Tryz.prog 36 #[.agg #[.int .i64 v.kind, .int .i64 v.num, .string v.str, .int .i64 v.next, sl]] h (Is (.bool v.valid) h) := by
  (refine enter Tryz.func36 rfl rfl (by kernel_rfl) [] ?_; simp only [go_sem, Nat.reduceBEq, Nat.reduceAdd, Nat.reduceLeDiff])
  (refine (iWeight v hb _ _ rd).mono ?_; rintro _ _ ⟨rfl, rfl⟩; simp only [go_sem, Nat.reduceBEq])
  have hd : decide (((v.weight : Nat) : Int) ≤ 200) = decide (v.weight ≤ 200) := decide_eq_decide.2 (by omega)
  unfold V.valid
  simp only [hd, go_sem]
  refine Br.intro (fun h1 => ?_) (fun h1 => ?_) <;> (try simp only [h1, go_sem, Nat.reduceBEq, Nat.reduceAdd, Nat.reduceLeDiff])
  · refine (iWell v hb _ _ rd hE).mono ?_
    rintro _ h2 ⟨rfl, e2⟩
    simp only [go_sem, Nat.reduceBEq]
    exact ⟨by simp, e2⟩
  · exact ⟨by simp, Ext.refl _⟩
end Go.Proofs.YtccjkhnefiikaaaGreatDoor
namespace Go.Proofs.YtccjkhnefiikaaaGreatDoor
set_option maxRecDepth 8000
open Go Go.Sx
theorem iIsHeld (l : List Bk) (v : V) (hl : l.length ≤ 1099511627776) (hb : v.bulk ≤ 1099511627776) (s sl : Value) (h : Hp) (r1 : RdB h l s) (r2 : RdE h v.items sl) (hE : Env h) : ACalls Tryz.prog 21 #[.agg #[s], .agg #[.int .i64 v.kind, .int .i64 v.num, .string v.str, .int .i64 v.next, sl]] h (Is (.bool (isHeld l v)) h) := by
  obtain ⟨a1, c1, xs1, rfl, hc1, hr1, hat1⟩ := r1.rows (by decide) l.length (fm_len Bk.dt_len _)
  obtain ⟨a2, c2, _, rfl, _⟩ := r2.rows (by decide) v.items.length (fm_len edt_len _)
  have hw : IntKind.i64.wrap ((l.length : Int) - 1) = (l.length : Int) - 1 := IntWalk.i64_in _ (by omega)
  (refine enter Tryz.func21 rfl rfl (by kernel_rfl) [] ?_; simp only [go_sem, Nat.reduceBEq])
  by_cases hk : v.kind = 5
  case neg =>
    simp only [decide_eq_false hk, Bool.not_false, go_sem, Nat.reduceBEq]
    by_cases h4 : v.kind = 4
    · simp only [decide_eq_true h4, Bool.not_true, go_sem, Nat.reduceBEq]
      exact ⟨by unfold isHeld; rw [if_neg hk, decide_eq_true h4]; rfl, Ext.refl _⟩
    · simp only [decide_eq_false h4, Bool.not_false, go_sem, Nat.reduceBEq, Nat.reduceAdd, Nat.reduceLeDiff]
      refine (iIsValue v hb _ _ r2 hE).mono ?_
      rintro _ h1 ⟨rfl, e1⟩
      simp only [go_sem, Nat.reduceBEq]
      exact ⟨by unfold isHeld; rw [if_neg hk, decide_eq_false h4, V.valid_wf h4]; rfl, e1⟩
  have hH : isHeld l v = hHeld l v := if_pos hk
  rw [hH]
  unfold hHeld
  simp only [decide_eq_true hk, Bool.not_true, go_sem, Nat.reduceBEq]
  by_cases h1 : v.str = ⟨#[]⟩
  case neg =>
    simp only [decide_eq_false h1, Bool.false_and, go_sem, Nat.reduceBEq]
    exact ⟨rfl, Ext.refl _⟩
  by_cases h2 : v.next = 0
  case neg =>
    simp only [decide_eq_true h1, decide_eq_false h2, Bool.true_and, Bool.false_and, go_sem, Nat.reduceBEq]
    exact ⟨rfl, Ext.refl _⟩
  by_cases h3 : v.items.length = 0
  case neg =>
    simp only [decide_eq_true h1, decide_eq_true h2, decide_eq_false h3, decide_eq_false (show ¬ ((v.items.length : Nat) : Int) = 0 by omega), Bool.true_and, Bool.false_and, go_sem, Nat.reduceBEq]
    exact ⟨rfl, Ext.refl _⟩
  simp only [decide_eq_true h1, decide_eq_true h2, decide_eq_true h3, decide_eq_true (show ((v.items.length : Nat) : Int) = 0 by omega), Bool.true_and, hw, go_sem, Nat.reduceBEq]
  (refine (iInRange _ _ _ _).mono ?_; rintro _ _ ⟨rfl, rfl⟩; simp only [go_sem, Nat.reduceBEq])
  by_cases h5 : 0 ≤ v.num ∧ v.num ≤ (l.length : Int) - 1
  case neg =>
    simp only [decide_eq_false h5, Bool.false_and, go_sem, Nat.reduceBEq]
    exact ⟨rfl, Ext.refl _⟩
  have hlt : v.num.toNat < l.length := by omega
  obtain ⟨b, off, rfl, hat'⟩ := hat1 (by omega)
  simp only [decide_eq_true h5, Bool.true_and, ix_int h5.1 hlt, go_sem, Nat.reduceBEq]
  refine hsem_bcnt tyS3 hat' hr1 (blk_at hlt) rfl ?_
  simp only [go_sem, Nat.reduceBEq]
  exact ⟨rfl, Ext.refl _⟩
theorem sHandle (v : V) (sl : Value) (h : Hp) (r2 : RdE h v.items sl) : ACalls Tryz.prog 28 #[.agg #[.int .i64 v.kind, .int .i64 v.num, .string v.str, .int .i64 v.next, sl]] h (Pu (.bool (decide (v.kind = 5) && (decide (v.str = ⟨#[]⟩) && (decide (v.next = 0) && decide (v.items.length = 0))))) h) := by
  obtain ⟨a2, c2, _, rfl, _⟩ := r2.rows (by decide) v.items.length (fm_len edt_len _)
  (refine enter Tryz.func28 rfl rfl (by kernel_rfl) [] ?_; simp only [go_sem, Nat.reduceBEq])
  by_cases hk : v.kind = 5
  case neg =>
    simp only [decide_eq_false hk, Bool.false_and, go_sem, Nat.reduceBEq]
    exact ⟨rfl, rfl⟩
  by_cases h1 : v.str = ⟨#[]⟩
  case neg =>
    simp only [decide_eq_true hk, decide_eq_false h1, Bool.true_and, Bool.false_and, go_sem, Nat.reduceBEq]
    exact ⟨rfl, rfl⟩
  by_cases h2 : v.next = 0
  case neg =>
    simp only [decide_eq_true hk, decide_eq_true h1, decide_eq_false h2, Bool.true_and, Bool.false_and, go_sem, Nat.reduceBEq]
    exact ⟨rfl, rfl⟩
  simp only [decide_eq_true hk, decide_eq_true h1, decide_eq_true h2, Bool.true_and, go_sem, Nat.reduceBEq]
  exact ⟨by rw [show decide (((v.items.length : Nat) : Int) = 0) = decide (v.items.length = 0) from decide_eq_decide.2 (by omega)], rfl⟩
theorem sIsHeld (l : List Bk) (v : V) (hl : l.length ≤ 1099511627776) (hb : v.bulk ≤ 1099511627776) (s sl : Value) (h : Hp) (r1 : RdB h l s) (r2 : RdE h v.items sl) : ACalls Tryz.prog 15 #[.agg #[s], .agg #[.int .i64 v.kind, .int .i64 v.num, .string v.str, .int .i64 v.next, sl]] h (Is (.bool (isHeld l v)) h) := by
  obtain ⟨a1, c1, xs1, rfl, hc1, hr1, hat1⟩ := r1.rows (by decide) l.length (fm_len Bk.dt_len _)
  obtain ⟨a2, c2, _, rfl, _⟩ := r2.rows (by decide) v.items.length (fm_len edt_len _)
  have hw : IntKind.i64.wrap ((l.length : Int) - 1) = (l.length : Int) - 1 := IntWalk.i64_in _ (by omega)
  (refine enter Tryz.func15 rfl rfl (by kernel_rfl) [] ?_; simp only [go_sem, Nat.reduceBEq])
  by_cases hk : v.kind = 5
  case neg =>
    simp only [decide_eq_false hk, go_sem, Nat.reduceBEq]
    by_cases h4 : v.kind = 4
    · simp only [decide_eq_true h4, Bool.not_true, go_sem, Nat.reduceBEq]
      exact ⟨by unfold isHeld; rw [if_neg hk, decide_eq_true h4]; rfl, Ext.refl _⟩
    · simp only [decide_eq_false h4, Bool.not_false, go_sem, Nat.reduceBEq, Nat.reduceAdd, Nat.reduceLeDiff]
      refine (sWell v hb _ _ r2).mono ?_
      rintro _ h1 ⟨rfl, e1⟩
      simp only [go_sem, Nat.reduceBEq]
      exact ⟨by unfold isHeld; rw [if_neg hk, decide_eq_false h4]; rfl, e1⟩
  have hH : isHeld l v = hHeld l v := if_pos hk
  rw [hH]
  unfold hHeld
  simp only [decide_eq_true hk, go_sem, Nat.reduceBEq, Nat.reduceAdd, Nat.reduceLeDiff]
  (refine (sHandle v _ _ r2).mono ?_; rintro _ _ ⟨rfl, rfl⟩; simp only [go_sem, Nat.reduceBEq])
  simp only [decide_eq_true hk, Bool.true_and, go_sem]
  by_cases h1 : v.str = ⟨#[]⟩
  case neg =>
    simp only [decide_eq_false h1, Bool.false_and, go_sem, Nat.reduceBEq]
    exact ⟨rfl, Ext.refl _⟩
  by_cases h2 : v.next = 0
  case neg =>
    simp only [decide_eq_true h1, decide_eq_false h2, Bool.true_and, Bool.false_and, go_sem, Nat.reduceBEq]
    exact ⟨rfl, Ext.refl _⟩
  by_cases h3 : v.items.length = 0
  case neg =>
    simp only [decide_eq_true h1, decide_eq_true h2, decide_eq_false h3, Bool.true_and, Bool.false_and, go_sem, Nat.reduceBEq]
    exact ⟨rfl, Ext.refl _⟩
  simp only [decide_eq_true h1, decide_eq_true h2, decide_eq_true h3, Bool.true_and, hw, go_sem, Nat.reduceBEq]
  (refine (l1In_c _ _ _ _).mono ?_; rintro _ _ ⟨rfl, rfl⟩; simp only [go_sem, Nat.reduceBEq])
  by_cases h5 : 0 ≤ v.num ∧ v.num ≤ (l.length : Int) - 1
  case neg =>
    simp only [decide_eq_false h5, Bool.false_and, go_sem, Nat.reduceBEq]
    exact ⟨rfl, Ext.refl _⟩
  have hlt : v.num.toNat < l.length := by omega
  obtain ⟨b, off, rfl, hat'⟩ := hat1 (by omega)
  simp only [decide_eq_true h5, Bool.true_and, ix_int h5.1 hlt, go_sem, Nat.reduceBEq]
  refine hsem_bcnt tyS3 hat' hr1 (blk_at hlt) rfl ?_
  simp only [go_sem, Nat.reduceBEq]
  exact ⟨rfl, Ext.refl _⟩
end Go.Proofs.YtccjkhnefiikaaaGreatDoor
namespace Go.Proofs.YtccjkhnefiikaaaGreatDoor
set_option maxRecDepth 8000
open Go Go.Sx
def MadeT (h : Hp) (t : Tb) (u : Value) (h' : Hp) : Prop := ∃ a c a' c', u = .agg #[.bool t.hashed, .slice a t.heads.length c, .slice a' t.slots.length c', .int .i64 t.next, .int .i64 t.count] ∧ My h h' [(.row 1 (t.heads.flatMap idt), .slice a t.heads.length c), (.row 10 (t.slots.flatMap Sl.dt), .slice a' t.slots.length c')]
theorem slot_bulk {t : Tb} {e : Sl} (h : e ∈ t.slots) : V.bulks e.val.items ≤ t.bulk := by
  have h1 := szG_mem (w := Sl.bulk) h
  have h2 := V.bulk_eq e.val
  have e1 : Sl.bulk e = e.key.str.size + e.val.bulk := rfl
  unfold Tb.bulk
  omega
theorem copyTable_c (t : Tb) (hb : t.bulk ≤ 1099511627776) (s u : Value) (h : Hp) (r1 : RdI h t.heads s) (r2 : RdT h t.slots u) : ACalls Tryz.prog 33 #[.agg #[.bool t.hashed, s, u, .int .i64 t.next, .int .i64 t.count]] h (MadeT h t) := by
  obtain ⟨a1, c1, xs1, rfl, hc1, hr1, hat1⟩ := r1.rows (by decide) t.heads.length (fm_len idt_len _)
  obtain ⟨a2, c2, xs2, rfl, hc2, hr2, hat2⟩ := r2.rows (by decide) t.slots.length (fm_len Sl.dt_len _)
  have hlh : t.heads.length ≤ 1099511627776 := by unfold Tb.bulk at hb; omega
  have hls : t.slots.length ≤ 1099511627776 := by have := szG_len (w := Sl.bulk) t.slots; unfold Tb.bulk at hb; omega
  (refine enter Tryz.func33 rfl rfl (by kernel_rfl) [] ?_; simp only [go_sem, Nat.reduceBEq])
  refine regionD_intro (lb := [7, 10, 13, 15]) (by kernel_rfl) ?_
  simp only [go_sem, Nat.reduceBEq]
  refine hsem_my_lit0 slT34 (My.nil (Ext.refl h)) fun v1 h1 m1 => ?_
  obtain ⟨a0, c0, rfl, _⟩ := m1.row_shape (by decide) 0 rfl
  simp only [go_sem, Nat.reduceBEq]
  refine hsem_copyI slT34 m1 (r1.mono m1.ext) hlh fun v2 h2 m2 => ?_
  obtain ⟨a3, c3, rfl, _⟩ := m2.row_shape (by decide) t.heads.length (fm_len idt_len _)
  simp only [go_sem, Nat.reduceBEq, Nat.reduceAdd, Nat.reduceLeDiff]
  refine aloop (ι := Nat × Value) (fun x => [(20, .val (.int .i64 (x.1 : Nat))), (19, .val (.int .i64 (t.slots.length : Nat))), (18, .val (.slice a2 t.slots.length c2)), (3, .box 3 0), (2, .box 2 0)])
    (fun x => [(3, [.bool t.hashed, .slice a3 t.heads.length c3, x.2, .int .i64 t.next, .int .i64 t.count]), (2, [.bool false, .slice none 0 0, .slice none 0 0, .int .i64 0, .int .i64 0])])
    (fun x h' => x.1 ≤ t.slots.length ∧ My h h' [(.row 10 ((t.slots.take x.1).flatMap Sl.dt), x.2), (.row 1 (t.heads.flatMap idt), .slice a3 t.heads.length c3)]) (fun x => t.slots.length - x.1) (0, .slice none 0 0)
    ⟨Nat.zero_le _, m2.nilrow⟩ (by repeat (first | exact wkF_e | refine wkF_c rfl ?_)) (wkB_c rfl (wkB_c rfl wkB_e)) rfl ?_
  rintro ⟨i, o⟩ h1 ⟨hi, m1⟩
  have hi : i ≤ t.slots.length := hi
  have m1 : My h h1 [(.row 10 ((t.slots.take i).flatMap Sl.dt), o), (.row 1 (t.heads.flatMap idt), .slice a3 t.heads.length c3)] := m1
  have htl : ((t.slots.take i).flatMap Sl.dt).length = i * 10 := by rw [fm_len Sl.dt_len, List.length_take, Nat.min_eq_left hi]
  obtain ⟨ao, co, rfl, _⟩ := m1.row_shape (by decide) i htl
  simp only [go_sem, Nat.reduceBEq]
  refine Br.intro (fun hb => ?_) (fun hb => ?_) <;> (try simp only [hb, go_sem, Nat.reduceBEq, Nat.reduceAdd, Nat.reduceLeDiff])
  · have hb : i < t.slots.length := by simpa using hb
    obtain ⟨b, off, rfl, hat'⟩ := hat2 (by omega)
    have hat1 := hat'.mono m1.ext
    have hr1 := hr2.mono m1.ext
    obtain ⟨e, he, hm⟩ := get_lt hb
    have hbe := slot_bulk hm
    have wsu := wrap_succ (i := i) (by omega)
    simp only [ix_nat hb, go_sem, Nat.reduceBEq]
    refine hsem_slot tyS59 hat1 hr1 he rfl fun s2 rd2 => ?_
    obtain ⟨a5, c5, _, rfl, _⟩ := rd2.rows (by decide) e.val.items.length (fm_len edt_len _)
    simp only [go_sem, Nat.reduceBEq, Nat.reduceAdd, Nat.reduceLeDiff]
    refine (copyValue_c e.val (by omega) _ _ rd2).mono ?_
    rintro _ h2 ⟨a6, c6, rfl, m2⟩
    simp only [go_sem, Nat.reduceBEq, Nat.reduceAdd, Nat.reduceLeDiff]
    have m3 := m1.add m2
    refine hsem_my_lit (h0 := h) (es := Sl.dt e) (parts := [(0, .agg #[.bool e.key.text, .int .i64 e.key.num, .string e.key.str, .int .i64 e.val.kind, .int .i64 e.val.num, .string e.val.str, .int .i64 e.val.next, .slice a6 e.val.items.length c6, .bool e.live, .int .i64 e.link])]) slT36 (by decide) (by decide) (by decide) rfl rfl (by simp [Value.cells]) (bag := [(.row 10 ((t.slots.take i).flatMap Sl.dt), .slice ao i co), (.row 1 (t.heads.flatMap idt), .slice a3 t.heads.length c3)]) ?_ rfl (Sl.dt_len e) fun l4 h4 m4 => ?_
    · simp only [flat, List.flatMap_cons, List.flatMap_nil, List.append_nil, cells_agg]
      exact slot_zip e m3
    simp only [go_sem, Nat.reduceBEq]
    refine hsem_my_append slT36 (by decide) rfl i 1 m4.swap htl (Sl.dt_len e) (by show (i + 1) * 112 ≤ _; omega) (by omega) fun l5 h5 m5 => ?_
    have m5 : My h h5 [(.row 10 ((t.slots.take i).flatMap Sl.dt ++ Sl.dt e), l5), (.row 1 (t.heads.flatMap idt), .slice a3 t.heads.length c3)] := m5
    have e5 : (t.slots.take i).flatMap Sl.dt ++ Sl.dt e = (t.slots.take (i + 1)).flatMap Sl.dt := by rw [take_snoc he, List.flatMap_append, List.flatMap_cons, List.flatMap_nil, List.append_nil]
    rw [e5] at m5
    obtain ⟨a7, c7, rfl, _⟩ := m5.row_shape (by decide) (i + 1) (by rw [fm_len Sl.dt_len, List.length_take, Nat.min_eq_left hb])
    simp only [wsu, go_sem, Nat.reduceBEq, Nat.reduceAdd, Nat.reduceLeDiff]
    exact Again.intro (i + 1, .slice a7 (i + 1) c7) (by first | omega | (simp only; omega)) ⟨hb, m5⟩ (by repeat (first | exact wkF_e | refine wkF_c rfl ?_)) (wkB_c rfl (wkB_c rfl wkB_e)) rfl
  · have hb : i = t.slots.length := by simp at hb; omega
    subst hb
    rw [List.take_length] at m1
    try simp only [go_sem, Nat.reduceBEq, Nat.reduceAdd, Nat.reduceLeDiff, Nat.reduceEqDiff, Int.reduceEq, not_false_eq_true, Int.reduceToNat]
    exact ⟨_, _, _, _, rfl, m1.swap⟩
theorem l7Copy_c (t : Tb) (hb : t.bulk ≤ 1099511627776) (s u : Value) (h : Hp) (r1 : RdI h t.heads s) (r2 : RdT h t.slots u) : ACalls Tryz.prog 89 #[.agg #[.bool t.hashed, s, u, .int .i64 t.next, .int .i64 t.count]] h (MadeT h t) := by
  obtain ⟨a1, c1, xs1, rfl, hc1, hr1, hat1⟩ := r1.rows (by decide) t.heads.length (fm_len idt_len _)
  obtain ⟨a2, c2, xs2, rfl, hc2, hr2, hat2⟩ := r2.rows (by decide) t.slots.length (fm_len Sl.dt_len _)
  have hlh : t.heads.length ≤ 1099511627776 := by unfold Tb.bulk at hb; omega
  have hls : t.slots.length ≤ 1099511627776 := by have := szG_len (w := Sl.bulk) t.slots; unfold Tb.bulk at hb; omega
  (refine enter Tryz.func89 rfl rfl (by kernel_rfl) [] ?_; simp only [go_sem, Nat.reduceBEq, Nat.reduceAdd, Nat.reduceLeDiff])
  refine hsem_my_lit0 slT34 (My.nil (Ext.refl h)) fun v1 h1 m1 => ?_
  obtain ⟨a0, c0, rfl, _⟩ := m1.row_shape (by decide) 0 rfl
  simp only [go_sem, Nat.reduceBEq]
  refine hsem_copyI slT34 m1 (r1.mono m1.ext) hlh fun v2 h2 m2 => ?_
  obtain ⟨a3, c3, rfl, _⟩ := m2.row_shape (by decide) t.heads.length (fm_len idt_len _)
  simp only [go_sem, Nat.reduceBEq, Nat.reduceAdd, Nat.reduceLeDiff]
  refine hsem_my_lit0 slT36 m2 fun v3 h3 m3 => ?_
  obtain ⟨a4, c4, rfl, _⟩ := m3.row_shape (by decide) 0 rfl
  simp only [go_sem, Nat.reduceBEq, Nat.reduceAdd, Nat.reduceLeDiff]
  refine aloop (ι := Nat × Value) (fun x => [(4, .val (.int .i64 (x.1 : Nat))), (1, .box 1 0), (3, .box 3 0), (2, .box 2 0)])
    (fun x => [(3, [.bool t.hashed, .slice a3 t.heads.length c3, x.2, .int .i64 t.next, .int .i64 t.count]), (1, [.bool t.hashed, .slice a1 t.heads.length c1, .slice a2 t.slots.length c2, .int .i64 t.next, .int .i64 t.count]), (2, [.bool false, .slice none 0 0, .slice none 0 0, .int .i64 0, .int .i64 0])])
    (fun x h' => x.1 ≤ t.slots.length ∧ My h h' [(.row 10 ((t.slots.take x.1).flatMap Sl.dt), x.2), (.row 1 (t.heads.flatMap idt), .slice a3 t.heads.length c3)]) (fun x => t.slots.length - x.1) (0, .slice a4 0 c4)
    ⟨Nat.zero_le _, m3⟩ (by repeat (first | exact wkF_e | refine wkF_c rfl ?_)) (wkB_c rfl (wkB_c rfl (wkB_c rfl wkB_e))) rfl ?_
  rintro ⟨i, o⟩ h1 ⟨hi, m1⟩
  have hi : i ≤ t.slots.length := hi
  have m1 : My h h1 [(.row 10 ((t.slots.take i).flatMap Sl.dt), o), (.row 1 (t.heads.flatMap idt), .slice a3 t.heads.length c3)] := m1
  have htl : ((t.slots.take i).flatMap Sl.dt).length = i * 10 := by rw [fm_len Sl.dt_len, List.length_take, Nat.min_eq_left hi]
  obtain ⟨ao, co, rfl, _⟩ := m1.row_shape (by decide) i htl
  simp only [go_sem, Nat.reduceBEq]
  refine Br.intro (fun hb => ?_) (fun hb => ?_) <;> (try simp only [hb, go_sem, Nat.reduceBEq, Nat.reduceAdd, Nat.reduceLeDiff])
  · have hb : i < t.slots.length := by simpa using hb
    obtain ⟨b, off, rfl, hat'⟩ := hat2 (by omega)
    have hat1 := hat'.mono m1.ext
    have hr1 := hr2.mono m1.ext
    obtain ⟨e, he, hm⟩ := get_lt hb
    have hbe := slot_bulk hm
    have wsu := wrap_succ (i := i) (by omega)
    simp only [ix_nat hb, go_sem, Nat.reduceBEq]
    refine hsem_slot tyS59 hat1 hr1 he rfl fun s2 rd2 => ?_
    obtain ⟨a5, c5, _, rfl, _⟩ := rd2.rows (by decide) e.val.items.length (fm_len edt_len _)
    simp only [go_sem, Nat.reduceBEq, Nat.reduceAdd, Nat.reduceLeDiff]
    refine (l5Copy_c e.val (by omega) _ _ rd2).mono ?_
    rintro _ h2 ⟨a6, c6, rfl, m2⟩
    simp only [go_sem, Nat.reduceBEq, Nat.reduceAdd, Nat.reduceLeDiff]
    have m3 := m1.add m2
    refine hsem_my_lit (h0 := h) (es := Sl.dt e) (parts := [(0, .agg #[.bool e.key.text, .int .i64 e.key.num, .string e.key.str, .int .i64 e.val.kind, .int .i64 e.val.num, .string e.val.str, .int .i64 e.val.next, .slice a6 e.val.items.length c6, .bool e.live, .int .i64 e.link])]) slT36 (by decide) (by decide) (by decide) rfl rfl (by simp [Value.cells]) (bag := [(.row 10 ((t.slots.take i).flatMap Sl.dt), .slice ao i co), (.row 1 (t.heads.flatMap idt), .slice a3 t.heads.length c3)]) ?_ rfl (Sl.dt_len e) fun l4 h4 m4 => ?_
    · simp only [flat, List.flatMap_cons, List.flatMap_nil, List.append_nil, cells_agg]
      exact slot_zip e m3
    simp only [go_sem, Nat.reduceBEq]
    refine hsem_my_append slT36 (by decide) rfl i 1 m4.swap htl (Sl.dt_len e) (by show (i + 1) * 112 ≤ _; omega) (by omega) fun l5 h5 m5 => ?_
    have m5 : My h h5 [(.row 10 ((t.slots.take i).flatMap Sl.dt ++ Sl.dt e), l5), (.row 1 (t.heads.flatMap idt), .slice a3 t.heads.length c3)] := m5
    have e5 : (t.slots.take i).flatMap Sl.dt ++ Sl.dt e = (t.slots.take (i + 1)).flatMap Sl.dt := by rw [take_snoc he, List.flatMap_append, List.flatMap_cons, List.flatMap_nil, List.append_nil]
    rw [e5] at m5
    obtain ⟨a7, c7, rfl, _⟩ := m5.row_shape (by decide) (i + 1) (by rw [fm_len Sl.dt_len, List.length_take, Nat.min_eq_left hb])
    simp only [wsu, go_sem, Nat.reduceBEq, Nat.reduceAdd, Nat.reduceLeDiff]
    exact Again.intro (i + 1, .slice a7 (i + 1) c7) (by first | omega | (simp only; omega)) ⟨hb, m5⟩ (by repeat (first | exact wkF_e | refine wkF_c rfl ?_)) (wkB_c rfl (wkB_c rfl (wkB_c rfl wkB_e))) rfl
  · have hb : i = t.slots.length := by simp at hb; omega
    subst hb
    rw [List.take_length] at m1
    try simp only [go_sem, Nat.reduceBEq, Nat.reduceAdd, Nat.reduceLeDiff, Nat.reduceEqDiff, Int.reduceEq, not_false_eq_true, Int.reduceToNat]
    exact ⟨_, _, _, _, rfl, m1.swap⟩
theorem iZero (v : V) (sl : Value) (h : Hp) (rd : RdE h v.items sl) : ACalls Tryz.prog 55 #[.agg #[.int .i64 v.kind, .int .i64 v.num, .string v.str, .int .i64 v.next, sl]] h (Pu (.bool v.isZero) h) := by
  obtain ⟨a, c, _, rfl, _⟩ := rd.rows (by decide) v.items.length (fm_len edt_len _)
  (refine enter Tryz.func55 rfl rfl (by kernel_rfl) [] ?_; simp only [go_sem, Nat.reduceBEq])
  unfold V.isZero
  by_cases h1 : v.kind = 0
  case neg => simp only [decide_eq_false h1, Bool.false_and, go_sem, Nat.reduceBEq]; exact ⟨rfl, rfl⟩
  by_cases h2 : v.num = 0
  case neg => simp only [decide_eq_true h1, decide_eq_false h2, Bool.false_and, Bool.true_and, go_sem, Nat.reduceBEq]; exact ⟨rfl, rfl⟩
  by_cases h3 : v.str = ⟨#[]⟩
  case neg => simp only [decide_eq_true h1, decide_eq_true h2, decide_eq_false h3, Bool.false_and, Bool.true_and, go_sem, Nat.reduceBEq]; exact ⟨rfl, rfl⟩
  by_cases h4 : v.next = 0
  case neg => simp only [decide_eq_true h1, decide_eq_true h2, decide_eq_true h3, decide_eq_false h4, Bool.false_and, Bool.true_and, go_sem, Nat.reduceBEq]; exact ⟨rfl, rfl⟩
  simp only [decide_eq_true h1, decide_eq_true h2, decide_eq_true h3, decide_eq_true h4, Bool.true_and, go_sem, Nat.reduceBEq]
  exact ⟨by rw [show decide (((v.items.length : Nat) : Int) = 0) = decide (v.items.length = 0) from decide_eq_decide.2 (by omega)], rfl⟩
theorem sZero (v : V) (sl : Value) (h : Hp) (rd : RdE h v.items sl) : ACalls Tryz.prog 52 #[.agg #[.int .i64 v.kind, .int .i64 v.num, .string v.str, .int .i64 v.next, sl]] h (Pu (.bool v.isZero) h) := by
  obtain ⟨a, c, _, rfl, _⟩ := rd.rows (by decide) v.items.length (fm_len edt_len _)
  (refine enter Tryz.func52 rfl rfl (by kernel_rfl) [] ?_; simp only [go_sem, Nat.reduceBEq])
  unfold V.isZero
  by_cases h1 : v.kind = 0
  case neg => simp only [decide_eq_false h1, Bool.false_and, go_sem, Nat.reduceBEq]; exact ⟨rfl, rfl⟩
  by_cases h2 : v.num = 0
  case neg => simp only [decide_eq_true h1, decide_eq_false h2, Bool.false_and, Bool.true_and, go_sem, Nat.reduceBEq]; exact ⟨rfl, rfl⟩
  by_cases h3 : v.str = ⟨#[]⟩
  case neg => simp only [decide_eq_true h1, decide_eq_true h2, decide_eq_false h3, Bool.false_and, Bool.true_and, go_sem, Nat.reduceBEq]; exact ⟨rfl, rfl⟩
  by_cases h4 : v.next = 0
  case neg => simp only [decide_eq_true h1, decide_eq_true h2, decide_eq_true h3, decide_eq_false h4, Bool.false_and, Bool.true_and, go_sem, Nat.reduceBEq]; exact ⟨rfl, rfl⟩
  simp only [decide_eq_true h1, decide_eq_true h2, decide_eq_true h3, decide_eq_true h4, Bool.true_and, go_sem, Nat.reduceBEq]
  exact ⟨by rw [show decide (((v.items.length : Nat) : Int) = 0) = decide (v.items.length = 0) from decide_eq_decide.2 (by omega)], rfl⟩
theorem iIntKey (n : Int) (h : Hp) : ACalls Tryz.prog 57 #[.int .i64 n] h (Pu (.agg #[.bool false, .int .i64 n, .string ⟨#[]⟩]) h) := by
  (refine enter Tryz.func57 rfl rfl (by kernel_rfl) [] ?_; simp only [go_sem, Nat.reduceBEq, Nat.reduceAdd, Nat.reduceLeDiff])
  exact ⟨rfl, rfl⟩
theorem noHeads_c (n : Nat) (hn : n ≤ 1048576) (h : Hp) : ACalls Tryz.prog 58 #[.int .i64 (n : Nat)] h (fun u h' => ∃ a c, u = .slice a n c ∧ My h h' [(.row 1 ((List.replicate n (-1)).flatMap idt), .slice a n c)]) := by
  (refine enter Tryz.func58 rfl rfl (by kernel_rfl) [] ?_; simp only [go_sem, Nat.reduceBEq])
  refine hsem_my_make slT34 (by decide) rfl rfl hn (by decide) (My.nil (Ext.refl h)) fun bo h1 m1 => ?_
  simp only [go_sem, Nat.reduceBEq]
  generalize hzz : SlT.zero _ = zz at m1
  refine aloop (ι := Nat) (fun i => [(9, .val (.int .i64 (i : Nat))), (8, .val (.int .i64 (n : Nat))), (3, .val (.slice (some ⟨bo, 0, none⟩) n n))]) (fun _ => []) (fun i h' => i ≤ n ∧ My h h' [(.row 1 ((List.replicate i (-1)).flatMap idt ++ zeros zz (n - i)), .slice (some ⟨bo, 0, none⟩) n n)]) (fun i => n - i) 0
    ⟨Nat.zero_le _, m1⟩ (by repeat (first | exact wkF_e | refine wkF_c rfl ?_)) wkB_e rfl ?_
  rintro i h2 ⟨hi, m2⟩
  have hi : i ≤ n := hi
  have m2 : My h h2 [(.row 1 ((List.replicate i (-1)).flatMap idt ++ zeros zz (n - i)), .slice (some ⟨bo, 0, none⟩) n n)] := m2
  simp only [go_sem, Nat.reduceBEq]
  refine Br.intro (fun hb => ?_) (fun hb => ?_) <;> (try simp only [hb, go_sem, Nat.reduceBEq])
  · have hb : i < n := by simpa using hb
    have wsu := wrap_succ (i := i) (by omega)
    simp only [ix_nat hb, go_sem, Nat.reduceBEq]
    rw [zeros_sub zz hb] at m2
    have m3 : My h h2 ((.raw (.int .i64 (-1)), .int .i64 (-1)) :: [(.row 1 ((List.replicate i (-1)).flatMap idt ++ (zz.map .raw ++ zeros zz (n - (i + 1)))), .slice (some ⟨bo, 0, none⟩) n n)]) := m2.raw rfl
    refine hsem_my_put (es := idt (-1)) tyS3 m3 (by omega) (by rw [List.length_map, ← hzz]; rfl) rfl rfl ?_ fun h4 m4 => ?_
    · rw [fm_len idt_len, List.length_replicate]
    simp only [wsu, go_sem, Nat.reduceBEq]
    refine Again.intro (i + 1) (by first | omega | (simp only; omega)) ⟨hb, ?_⟩ (by repeat (first | exact wkF_e | refine wkF_c rfl ?_)) wkB_e rfl
    rw [List.replicate_succ', List.flatMap_append, List.flatMap_cons, List.flatMap_nil, List.append_nil, List.append_assoc]
    exact m4
  · have hb : i = n := by simp at hb; omega
    subst hb
    rw [Nat.sub_self] at m2
    try simp only [go_sem, Nat.reduceBEq, Nat.reduceAdd, Nat.reduceLeDiff, Nat.reduceEqDiff, Int.reduceEq, not_false_eq_true, Int.reduceToNat]
    exact ⟨_, _, rfl, by simpa [zeros] using m2⟩
end Go.Proofs.YtccjkhnefiikaaaGreatDoor
namespace Go.Proofs.YtccjkhnefiikaaaGreatDoor
set_option maxRecDepth 8000
open Go Go.Sx
theorem tmod_neg {n m : Int} (h0 : 1 ≤ m) : (n.tmod m < 0 → n.tmod m + m = n % m) ∧ (¬ n.tmod m < 0 → n.tmod m = n % m) ∧ -m < n.tmod m ∧ n.tmod m < m := by
  have h1 := Int.emod_nonneg n (show m ≠ 0 by omega)
  have h2 := Int.emod_lt_of_pos n (show 0 < m by omega)
  have h3 := Int.tmod_eq_emod (a := n) (b := m)
  by_cases h : 0 ≤ n ∨ m ∣ n
  · rw [if_pos h] at h3
    omega
  · rw [if_neg h] at h3
    have : ((m.natAbs : Nat) : Int) = m := by omega
    omega
theorem iMod (n m : Int) (h0 : 1 ≤ m) (h1 : m ≤ 1000000000000) (h : Hp) : ACalls Tryz.prog 59 #[.int .i64 n, .int .i64 m] h (Pu (.int .i64 (n % m)) h) := by
  obtain ⟨t1, t2, t3, t4⟩ := tmod_neg (n := n) h0
  have d1 : decide (m < 1) = false := decide_eq_false (by omega)
  have d2 : decide ((1000000000000 : Int) < m) = false := decide_eq_false (by omega)
  have hm0 : (m = 0) = False := eq_false (by omega)
  (refine enter Tryz.func59 rfl rfl (by kernel_rfl) [] ?_; simp only [go_sem, Nat.reduceBEq])
  simp only [d1, d2, hm0, if_false, go_sem, Nat.reduceBEq]
  refine Br.intro (fun hb => ?_) (fun hb => ?_) <;> (try simp only [hb, go_sem, Nat.reduceBEq])
  · have hb := of_decide_eq_true hb
    have w : IntKind.i64.wrap (n.tmod m + m) = n % m := by rw [IntWalk.i64_in _ (by omega)]; exact t1 hb
    try simp only [w, go_sem]
    exact ⟨by first | rfl | rw [w], rfl⟩
  · have hb := of_decide_eq_false hb
    exact ⟨by rw [t2 hb], rfl⟩
theorem sMod (n m : Int) (h0 : 1 ≤ m) (h1 : m ≤ 1000000000000) (h : Hp) : ACalls Tryz.prog 77 #[.int .i64 n, .int .i64 m] h (Pu (.int .i64 (n % m)) h) := by
  obtain ⟨t1, t2, t3, t4⟩ := tmod_neg (n := n) h0
  have d1 : decide (1 ≤ m ∧ m ≤ 1000000000000) = true := decide_eq_true (by omega)
  have hm0 : (m = 0) = False := eq_false (by omega)
  have w : IntKind.i64.wrap (n.tmod m + m) = n.tmod m + m := IntWalk.i64_in _ (by omega)
  have w2 : (n.tmod m + m).tmod m = n % m := by
    rw [Int.tmod_eq_emod_of_nonneg (by omega), Int.add_emod_right]
    by_cases hb : n.tmod m < 0
    · have := t1 hb
      rw [show n.tmod m = n % m - m by omega, Int.sub_emod_right, Int.emod_emod_of_dvd _ (Int.dvd_refl m)]
    · rw [t2 hb, Int.emod_emod_of_dvd _ (Int.dvd_refl m)]
  (refine enter Tryz.func77 rfl rfl (by kernel_rfl) [] ?_; simp only [go_sem, Nat.reduceBEq])
  (refine (l1In_c _ _ _ _).mono ?_; rintro _ _ ⟨rfl, rfl⟩; simp only [go_sem, Nat.reduceBEq])
  simp only [d1, hm0, if_false, Bool.not_true, w, w2, go_sem, Nat.reduceBEq]
  exact ⟨rfl, rfl⟩

theorem iHashText (s : ByteArray) (hs : s.size ≤ 1152921504606846976) (h : Hp) : ACalls Tryz.prog 79 #[.string s] h (Pu (.int .i64 (hashT s : Nat)) h) := by
  have hsz := size_list s
  (refine enter Tryz.func79 rfl rfl (by kernel_rfl) [] ?_; simp only [go_sem])
  refine aloop (ι := Nat) (fun i => [(4, .val (.int .i64 (i : Nat))), (3, .val (.int .i64 (((s.data.toList.take i).foldl hstep 11 : Nat)))), (0, .val (.string s))]) (fun _ => []) (fun i h' => i ≤ s.size ∧ h' = h) (fun i => s.size - i) 0 ⟨Nat.zero_le _, rfl⟩ (by repeat (first | exact wkF_e | refine wkF_c rfl ?_)) wkB_e rfl ?_
  rintro i _ ⟨hi, rfl⟩
  simp only [go_sem, Nat.reduceBEq]
  refine Br.intro (fun hb => ?_) (fun hb => ?_) <;> (try simp only [hb, go_sem, Nat.reduceBEq])
  · have hb : i < s.size := by simpa using hb
    obtain ⟨c, hc⟩ : ∃ c, s.data.toList[i]? = some c := ⟨_, List.getElem?_eq_getElem (by omega)⟩
    have wsu := wrap_succ (i := i) (by omega)
    have hd := hfold_lt (s.data.toList.take i) 11 (by omega)
    have hc8 := c.toNat_lt
    have wch : IntKind.i64.wrap (c.toNat : Int) = (c.toNat : Int) := IntWalk.i64_in _ (by omega)
    have e := hfold_snoc hc
    generalize (s.data.toList.take i).foldl hstep 11 = d at *
    obtain ⟨x1, hx1⟩ : ∃ x : Int, x = (d : Int) * 1000003 := ⟨_, rfl⟩
    obtain ⟨x2, hx2⟩ : ∃ x : Int, x = x1 + (c.toNat : Int) := ⟨_, rfl⟩
    obtain ⟨x3, hx3⟩ : ∃ x : Int, x = x2 + 13 := ⟨_, rfl⟩
    obtain ⟨d', hd'⟩ : ∃ x : Nat, x = hstep d c := ⟨_, rfl⟩
    have w1 : IntKind.i64.wrap ((d : Int) * 1000003) = x1 := by rw [hx1, IntWalk.i64_in _ (by omega)]
    have w2 : IntKind.i64.wrap (x1 + (c.toNat : Int)) = x2 := by rw [hx2, IntWalk.i64_in _ (by omega)]
    have w3 : IntKind.i64.wrap (x2 + 13) = x3 := by rw [hx3, IntWalk.i64_in _ (by omega)]
    have w4 : x3.tmod 2147483647 = ((d' : Nat) : Int) := by
      rw [Int.tmod_eq_emod_of_nonneg (by omega), hd']
      unfold hstep
      omega
    rw [← hd'] at e
    clear hd'
    simp only [sidx_at hc, wch, w1, w2, w3, w4, wsu, go_sem, Nat.reduceBEq, Int.reduceEq, not_false_eq_true]
    exact Again.intro (i + 1) (by first | omega | (simp only; omega)) ⟨hb, rfl⟩ (by simp only [e]; exact (by repeat (first | exact wkF_e | refine wkF_c rfl ?_))) wkB_e rfl
  · have hb : i = s.size := by simp at hb; omega
    subst hb
    refine ⟨?_, rfl⟩
    rw [List.take_of_length_le (by omega)]
    rfl
theorem iKeyHash (k : Ky) (hs : k.str.size ≤ 1152921504606846976) (h : Hp) : ACalls Tryz.prog 60 #[.agg #[.bool k.text, .int .i64 k.num, .string k.str]] h (Pu (.int .i64 (k.hash : Nat)) h) := by
  (refine enter Tryz.func60 rfl rfl (by kernel_rfl) [] ?_; simp only [go_sem, Nat.reduceBEq])
  cases ht : k.text with
  | true =>
    have e : k.hash = hashT k.str := by unfold Ky.hash; rw [ht]; rfl
    rw [e]
    simp only [go_sem, Nat.reduceBEq]
    (refine (iHashText k.str hs _).mono ?_; rintro _ _ ⟨rfl, rfl⟩; simp only [go_sem, Nat.reduceBEq])
    exact ⟨rfl, rfl⟩
  | false =>
    have e : ((k.hash : Nat) : Int) = k.num % 2147483647 := by
      unfold Ky.hash
      rw [ht]
      show (((k.num % 2147483647).toNat : Nat) : Int) = _
      omega
    rw [e]
    simp only [go_sem, Nat.reduceBEq]
    (refine (iMod k.num 2147483647 (by omega) (by omega) _).mono ?_; rintro _ _ ⟨rfl, rfl⟩; simp only [go_sem, Nat.reduceBEq])
    exact ⟨rfl, rfl⟩
theorem sHashText (s : ByteArray) (hs : s.size ≤ 1152921504606846976) (h : Hp) : ACalls Tryz.prog 76 #[.string s] h (Pu (.int .i64 (hashT s : Nat)) h) := by
  have hsz := size_list s
  (refine enter Tryz.func76 rfl rfl (by kernel_rfl) [] ?_; simp only [go_sem])
  refine aloop (ι := Nat) (fun i => [(4, .val (.int .i64 (i : Nat))), (3, .val (.int .i64 (((s.data.toList.take i).foldl hstep 11 : Nat)))), (0, .val (.string s))]) (fun _ => []) (fun i h' => i ≤ s.size ∧ h' = h) (fun i => s.size - i) 0 ⟨Nat.zero_le _, rfl⟩ (by repeat (first | exact wkF_e | refine wkF_c rfl ?_)) wkB_e rfl ?_
  rintro i _ ⟨hi, rfl⟩
  simp only [go_sem, Nat.reduceBEq]
  refine Br.intro (fun hb => ?_) (fun hb => ?_) <;> (try simp only [hb, go_sem, Nat.reduceBEq])
  · have hb : i < s.size := by simpa using hb
    obtain ⟨c, hc⟩ : ∃ c, s.data.toList[i]? = some c := ⟨_, List.getElem?_eq_getElem (by omega)⟩
    have wsu := wrap_succ (i := i) (by omega)
    have hd := hfold_lt (s.data.toList.take i) 11 (by omega)
    have hc8 := c.toNat_lt
    have wch : IntKind.i64.wrap (c.toNat : Int) = (c.toNat : Int) := IntWalk.i64_in _ (by omega)
    have e := hfold_snoc hc
    generalize (s.data.toList.take i).foldl hstep 11 = d at *
    obtain ⟨x1, hx1⟩ : ∃ x : Int, x = (d : Int) * 1000003 := ⟨_, rfl⟩
    obtain ⟨x2, hx2⟩ : ∃ x : Int, x = x1 + (c.toNat : Int) := ⟨_, rfl⟩
    obtain ⟨x3, hx3⟩ : ∃ x : Int, x = x2 + 13 := ⟨_, rfl⟩
    obtain ⟨d', hd'⟩ : ∃ x : Nat, x = hstep d c := ⟨_, rfl⟩
    have w1 : IntKind.i64.wrap ((d : Int) * 1000003) = x1 := by rw [hx1, IntWalk.i64_in _ (by omega)]
    have w2 : IntKind.i64.wrap (x1 + (c.toNat : Int)) = x2 := by rw [hx2, IntWalk.i64_in _ (by omega)]
    have w3 : IntKind.i64.wrap (x2 + 13) = x3 := by rw [hx3, IntWalk.i64_in _ (by omega)]
    have w4 : x3.tmod 2147483647 = ((d' : Nat) : Int) := by
      rw [Int.tmod_eq_emod_of_nonneg (by omega), hd']
      unfold hstep
      omega
    rw [← hd'] at e
    clear hd'
    simp only [sidx_at hc, wch, w1, w2, w3, w4, wsu, go_sem, Nat.reduceBEq, Int.reduceEq, not_false_eq_true]
    exact Again.intro (i + 1) (by first | omega | (simp only; omega)) ⟨hb, rfl⟩ (by simp only [e]; exact (by repeat (first | exact wkF_e | refine wkF_c rfl ?_))) wkB_e rfl
  · have hb : i = s.size := by simp at hb; omega
    subst hb
    refine ⟨?_, rfl⟩
    rw [List.take_of_length_le (by omega)]
    rfl
theorem sKeyHash (k : Ky) (hs : k.str.size ≤ 1152921504606846976) (h : Hp) : ACalls Tryz.prog 51 #[.agg #[.bool k.text, .int .i64 k.num, .string k.str]] h (Pu (.int .i64 (k.hash : Nat)) h) := by
  (refine enter Tryz.func51 rfl rfl (by kernel_rfl) [] ?_; simp only [go_sem, Nat.reduceBEq])
  cases ht : k.text with
  | true =>
    have e : k.hash = hashT k.str := by unfold Ky.hash; rw [ht]; rfl
    rw [e]
    simp only [go_sem, Nat.reduceBEq]
    (refine (sHashText k.str hs _).mono ?_; rintro _ _ ⟨rfl, rfl⟩; simp only [go_sem, Nat.reduceBEq])
    exact ⟨rfl, rfl⟩
  | false =>
    have e : ((k.hash : Nat) : Int) = k.num % 2147483647 := by
      unfold Ky.hash
      rw [ht]
      show (((k.num % 2147483647).toNat : Nat) : Int) = _
      omega
    rw [e]
    simp only [go_sem, Nat.reduceBEq]
    (refine (sMod k.num 2147483647 (by omega) (by omega) _).mono ?_; rintro _ _ ⟨rfl, rfl⟩; simp only [go_sem, Nat.reduceBEq])
    exact ⟨rfl, rfl⟩
theorem find_packed {t : Tb} {k : Ky} (h : t.hashed = false) : t.find k = if k.text = false ∧ k.str = ⟨#[]⟩ ∧ 0 ≤ k.num ∧ ((t.slots[k.num.toNat]?).map (·.live)).getD false = true then some k.num.toNat else none := by
  unfold Tb.find
  rw [h]
  rfl
theorem find_hashed {t : Tb} {k : Ky} (h : t.hashed = true) : t.find k = chain t.slots k (t.heads.getD (k.hash % t.heads.length) (-1)) := by
  unfold Tb.find
  rw [h]
  rfl
theorem find_no {t : Tb} {k : Ky} (h : t.hashed = false) (hn : ¬ (k.text = false ∧ k.str = ⟨#[]⟩ ∧ 0 ≤ k.num ∧ ((t.slots[k.num.toNat]?).map (·.live)).getD false = true)) : t.find k = none := by
  rw [find_packed h, if_neg hn]
theorem find_yes {t : Tb} {k : Ky} {s : Sl} (h : t.hashed = false) (h1 : k.text = false) (h2 : k.str = ⟨#[]⟩) (h3 : 0 ≤ k.num) (hs : t.slots[k.num.toNat]? = some s) (hl : s.live = true) : t.find k = some k.num.toNat := by
  rw [find_packed h, if_pos ⟨h1, h2, h3, by rw [hs]; simpa using hl⟩]
theorem sFind7 (t : Tb) (k : Ky) (c : t.ch) (hk : k.str.size ≤ 1152921504606846976) (s u : Value) (h : Hp) (r1 : RdI h t.heads s) (r2 : RdT h t.slots u) : ACalls Tryz.prog 72 #[.agg #[.bool t.hashed, s, u, .int .i64 t.next, .int .i64 t.count], .agg #[.bool k.text, .int .i64 k.num, .string k.str]] h (Pu (.int .i64 (ixI (t.find k))) h) := by
  obtain ⟨a1, c1, xs1, rfl, hc1, hr1, hat1⟩ := r1.rows (by decide) t.heads.length (fm_len idt_len _)
  obtain ⟨a2, c2, xs2, rfl, hc2, hr2, hat2⟩ := r2.rows (by decide) t.slots.length (fm_len Sl.dt_len _)
  have hlen := c.len
  (refine enter Tryz.func72 rfl rfl (by kernel_rfl) [] ?_; simp only [go_sem, Nat.reduceBEq])
  cases ht : t.hashed with
  | false =>
    have wl : IntKind.i64.wrap (((t.slots.length : Nat) : Int) - 1) = (t.slots.length : Int) - 1 := IntWalk.i64_in _ (by omega)
    simp only [go_sem]
    refine regionD_intro (lb := [10, 14, 16, 23, 25, 32, 34, 38]) (by kernel_rfl) ?_
    cases kt : k.text with
    | true =>
      simp only [go_sem, Nat.reduceBEq]
      exact ⟨by rw [find_no ht (by rw [kt]; simp)]; rfl, rfl⟩
    | false =>
    simp only [wl, go_sem, Nat.reduceBEq]
    (refine (l1In_c _ _ _ _).mono ?_; rintro _ _ ⟨rfl, rfl⟩; simp only [go_sem, Nat.reduceBEq])
    by_cases k0 : 0 ≤ k.num ∧ k.num ≤ (t.slots.length : Int) - 1
    case neg =>
      simp only [decide_eq_false k0, go_sem, Nat.reduceBEq]
      refine ⟨?_, rfl⟩
      rw [find_no ht ?_]
      · rfl
      · rintro ⟨_, _, q0, q⟩
        rw [List.getElem?_eq_none (by omega)] at q
        simp at q
    obtain ⟨n, hkn⟩ : ∃ n : Nat, k.num = n := ⟨k.num.toNat, by omega⟩
    have hn : n < t.slots.length := by omega
    obtain ⟨b2, o2, rfl, hat2'⟩ := hat2 (by omega)
    obtain ⟨e, he, _⟩ := get_lt hn
    have he' : t.slots[k.num.toNat]? = some e := by rw [hkn]; exact he
    have hke := (c.packed ht).2 n e he
    rw [hkn] at k0
    simp only [hkn, decide_eq_true k0, ix_nat hn, go_sem, Nat.reduceBEq, Nat.reduceAdd]
    refine hsem_slive tyS4 hat2' hr2 he rfl ?_
    cases hlv : e.live with
    | false =>
      simp only [go_sem, Nat.reduceBEq]
      refine ⟨?_, rfl⟩
      rw [find_no ht ?_]
      · rfl
      · rintro ⟨_, _, _, q⟩
        rw [he'] at q
        simp [hlv] at q
    | true =>
      simp only [ix_nat hn, go_sem, Nat.reduceBEq]
      refine hsem_skey tyS57 hat2' hr2 he rfl ?_
      have kd : decide (e.key.text = false ∧ e.key.num = ((n : Nat) : Int) ∧ e.key.str = k.str) = decide (e.key = k) := by rw [← kt, ← hkn]; exact key_dec e.key k
      simp only [kd, keyT57, go_sem, Nat.reduceBEq, Nat.reduceAdd, Nat.reduceLeDiff]
      by_cases ke : e.key = k
      · simp only [decide_eq_true ke, go_sem, Nat.reduceBEq]
        refine ⟨?_, rfl⟩
        rw [find_yes ht kt (by rw [← ke, hke]) (by omega) he' hlv, hkn]
        rfl
      · simp only [decide_eq_false ke, go_sem, Nat.reduceBEq]
        refine ⟨?_, rfl⟩
        rw [find_no ht ?_]
        · rfl
        · rintro ⟨_, q, _, _⟩
          refine ke ?_
          rw [hke, ← hkn, ← kt, ← q]
  | true =>
  have hsz := c.size ht
  have hm : k.hash % t.heads.length < t.heads.length := Nat.mod_lt _ (by omega)
  have hx := c.heads ht _ (getD_mem (d := -1) hm)
  have hh := k.hash_lt
  obtain ⟨b1, o1, rfl, hat1'⟩ := hat1 (by omega)
  have em : ((k.hash : Nat) : Int).tmod ((t.heads.length : Nat) : Int) = ((k.hash % t.heads.length : Nat) : Int) := by
    rw [Int.tmod_eq_emod_of_nonneg (by omega)]
    omega
  have hm0 : (((t.heads.length : Nat) : Int) = 0) = False := eq_false (by omega)
  simp only [go_sem]
  refine regionD_intro (lb := [44, 45, 48]) (by kernel_rfl) ?_
  simp only [go_sem, Nat.reduceBEq, Nat.reduceAdd, Nat.reduceLeDiff]
  (refine (sKeyHash k hk _).mono ?_; rintro _ _ ⟨rfl, rfl⟩; simp only [go_sem, Nat.reduceBEq])
  simp only [hm0, em, ix_nat hm, go_sem, Nat.reduceBEq, not_false_eq_true]
  refine hsem_num tyS3 hat1' hr1 (getD_at (d := -1) hm) rfl ?_
  simp only [go_sem, Nat.reduceBEq]
  refine aloop (ι := Int) (fun i => [(5, .val (.int .i64 i)), (2, .box 2 0), (3, .box 3 0)]) (fun _ => [(2, [.bool true, .slice (some ⟨b1, o1, none⟩) t.heads.length c1, .slice a2 t.slots.length c2, .int .i64 t.next, .int .i64 t.count]), (3, [.bool k.text, .int .i64 k.num, .string k.str])])
    (fun i h' => -1 ≤ i ∧ i < t.slots.length ∧ chain t.slots k i = t.find k ∧ h = h') (fun i => (i + 1).toNat) (t.heads.getD (k.hash % t.heads.length) (-1)) ⟨hx.1, hx.2, by rw [find_hashed ht], rfl⟩ (by repeat (first | exact wkF_e | refine wkF_c rfl ?_)) (wkB_c rfl (wkB_c rfl wkB_e)) rfl ?_
  rintro i _ ⟨hi0, hi1, hq, rfl⟩
  have hi0 : -1 ≤ i := hi0
  have hi1 : i < t.slots.length := hi1
  have hq : chain t.slots k i = t.find k := hq
  simp only [go_sem, Nat.reduceBEq]
  refine Br.intro (fun hb => ?_) (fun hb => ?_) <;> (try simp only [hb, go_sem, Nat.reduceBEq])
  · have hb : 0 ≤ i := by simpa using hb
    obtain ⟨n, rfl⟩ : ∃ n : Nat, i = n := ⟨i.toNat, by omega⟩
    have hn : n < t.slots.length := by omega
    obtain ⟨b2, o2, rfl, hat2'⟩ := hat2 (by omega)
    obtain ⟨e, he, _⟩ := get_lt hn
    have he' : t.slots[((n : Nat) : Int).toNat]? = some e := he
    have hbk := c.back ht n e he
    refine regionD_intro (lb := [62, 69, 74]) (by kernel_rfl) ?_
    simp only [ix_nat hn, go_sem, Nat.reduceBEq, Nat.reduceAdd]
    refine hsem_slive tyS4 hat2' hr2 he rfl ?_
    cases hlv : e.live with
    | false =>
      rw [chain_miss (c.back ht) hb he' (by rw [hlv]; simp)] at hq
      simp only [ix_nat hn, go_sem, Nat.reduceBEq, Nat.reduceAdd]
      refine hsem_slink tyS3 hat2' hr2 he rfl ?_
      simp only [go_sem, Nat.reduceBEq]
      exact Again.intro e.link (by first | omega | (simp only; omega)) ⟨by omega, by omega, hq, rfl⟩ (by repeat (first | exact wkF_e | refine wkF_c rfl ?_)) (wkB_c rfl (wkB_c rfl wkB_e)) rfl
    | true =>
      simp only [ix_nat hn, go_sem, Nat.reduceBEq]
      refine hsem_skey tyS57 hat2' hr2 he rfl ?_
      simp only [key_dec, keyT57, go_sem, Nat.reduceBEq, Nat.reduceAdd, Nat.reduceLeDiff]
      refine Br.intro (fun hk => ?_) (fun hk => ?_) <;> (try simp only [hk, go_sem, Nat.reduceBEq])
      · have hk := of_decide_eq_true hk
        rw [chain_hit hb he' ⟨hlv, hk⟩] at hq
        exact ⟨by rw [← hq]; rfl, rfl⟩
      · have hk := of_decide_eq_false hk
        rw [chain_miss (c.back ht) hb he' (by rw [hlv]; simp [hk])] at hq
        simp only [ix_nat hn, go_sem, Nat.reduceBEq, Nat.reduceAdd]
        refine hsem_slink tyS3 hat2' hr2 he rfl ?_
        simp only [go_sem, Nat.reduceBEq]
        exact Again.intro e.link (by first | omega | (simp only; omega)) ⟨by omega, by omega, hq, rfl⟩ (by repeat (first | exact wkF_e | refine wkF_c rfl ?_)) (wkB_c rfl (wkB_c rfl wkB_e)) rfl
  · have hb : i < 0 := by simp at hb; omega
    rw [chain_neg hb] at hq
    exact ⟨by rw [← hq]; rfl, rfl⟩
end Go.Proofs.YtccjkhnefiikaaaGreatDoor
