/-
  The statement FnExactSetShared is proved: for each argument the law returns true; nothing is assumed.
-/
import Derived.Test.YtedfplodobpgfaaGreatDoorFnExactSetSharedAllA
import Derived.Test.YtedfplodobpgfaaGreatDoorSxMathV
/-! Heaps of counted tables in plain Lean: what is held, what blocks weigh, which heaps are right. -/
namespace Go.Sx
open Go
def bk0 : Bk := ⟨0, ⟨false, [], [], 0, 0⟩⟩
def blk (l : List Bk) (i : Nat) : Bk := l.getD i bk0
theorem blk_get {l : List Bk} {i : Nat} {b : Bk} (h : l[i]? = some b) : blk l i = b := by
  unfold blk
  rw [List.getD_eq_getElem?_getD, h]
  rfl
theorem blk_at {l : List Bk} {i : Nat} (h : i < l.length) : l[i]? = some (blk l i) := by
  unfold blk
  rw [List.getD_eq_getElem?_getD, List.getElem?_eq_getElem h]
  rfl
/-- a handle that is held -/
def hHeld (l : List Bk) (v : V) : Bool := decide (v.str = ⟨#[]⟩) && (decide (v.next = 0) && (decide (v.items.length = 0) && (decide (0 ≤ v.num ∧ v.num ≤ (l.length : Int) - 1) && decide (0 < (blk l v.num.toNat).count))))
def isHeld (l : List Bk) (v : V) : Bool := if v.kind = 5 then hHeld l v else !decide (v.kind = 4) && v.wf
theorem held_num {l : List Bk} {v : V} (h : isHeld l v = true) (k : v.kind = 5) : 0 ≤ v.num ∧ v.num.toNat < l.length ∧ 0 < (blk l v.num.toNat).count := by
  unfold isHeld hHeld at h
  rw [if_pos k] at h
  simp only [Bool.and_eq_true, decide_eq_true_eq] at h
  omega
theorem held_form {l : List Bk} {v : V} (h : isHeld l v = true) (k : v.kind = 5) : v = ⟨5, v.num, ⟨#[]⟩, 0, []⟩ := by
  unfold isHeld hHeld at h
  rw [if_pos k] at h
  simp only [Bool.and_eq_true, decide_eq_true_eq] at h
  obtain ⟨h1, h2, h3, _⟩ := h
  rw [← V.eta v, k, h1, h2, List.eq_nil_of_length_eq_zero h3]
  rfl
theorem held_other {l : List Bk} {v : V} (h : isHeld l v = true) (k : ¬ v.kind = 5) : ¬ v.kind = 4 ∧ v.wf = true := by
  unfold isHeld at h
  rw [if_neg k] at h
  simpa using h
theorem wf_items {v : V} (h : v.wf = true) (k : ¬ v.kind = 4) : v.items = [] := by
  rw [V.wf_eq] at h
  unfold wf0 at h
  simp only [Bool.and_eq_true] at h
  have h1 := h.1.2
  simp [k] at h1
  exact h1.2
theorem wf_str {v : V} (h : v.wf = true) : v.str.size ≤ 400 := by
  rw [V.wf_eq] at h
  unfold wf0 at h
  simp only [Bool.and_eq_true] at h
  obtain ⟨⟨h1, _⟩, h2⟩ := h
  by_cases k : v.kind = 3
  · simp [k] at h2
    exact h2.2
  · simp [k] at h1
    rw [h1]
    exact Nat.zero_le _
/-- A held value has no items; its text is short. -/
theorem held_items {l : List Bk} {v : V} (h : isHeld l v = true) : v.items = [] ∧ v.str.size ≤ 400 := by
  by_cases k : v.kind = 5
  · have e := held_form h k
    rw [e]
    exact ⟨rfl, Nat.zero_le _⟩
  · obtain ⟨h1, h2⟩ := held_other h k
    exact ⟨wf_items h2 h1, wf_str h2⟩
theorem V.valid_wf {v : V} (k : ¬ v.kind = 4) : v.valid = v.wf := by
  unfold V.valid
  rw [V.weight_eq, if_neg k]
  rfl
/-! weights -/
/-- what the live ones of some slots weigh, the blocks' weights given -/
def sumW (g : Nat → Option Nat) : List Sl → Option Nat
  | [] => some 0
  | s :: r => if s.live then (match (if s.val.kind = 5 then g s.val.num.toNat else some 1), sumW g r with
    | some a, some b => some (a + b)
    | _, _ => none) else sumW g r
def wtF (l : List Bk) : Nat → Nat → Option Nat
  | 0, _ => none
  | f + 1, i => (sumW (wtF l f) (blk l i).tab.slots).map (· + 1)
/-- a block's weight -/
def Wt (l : List Bk) (i n : Nat) : Prop := ∃ f, wtF l f i = some n
def SumR (l : List Bk) (ss : List Sl) (n : Nat) : Prop := ∃ f, sumW (wtF l f) ss = some n
theorem sumW_mono {g g' : Nat → Option Nat} (h : ∀ i n, g i = some n → g' i = some n) : ∀ (ss : List Sl) (n : Nat), sumW g ss = some n → sumW g' ss = some n
  | [], n, k => k
  | s :: r, n, k => by
    rw [sumW] at k ⊢
    cases hl : s.live with
    | false =>
      rw [hl] at k
      simp only [Bool.false_eq_true, if_false] at k ⊢
      exact sumW_mono h r n k
    | true =>
      rw [hl] at k
      simp only [if_true] at k ⊢
      cases h1 : (if s.val.kind = 5 then g s.val.num.toNat else some 1) with
      | none => rw [h1] at k; cases k
      | some a =>
        cases h2 : sumW g r with
        | none => rw [h1, h2] at k; cases k
        | some b =>
          rw [h1, h2] at k
          have e1 : (if s.val.kind = 5 then g' s.val.num.toNat else some 1) = some a := by
            split at h1
            · rename_i hk; rw [if_pos hk]; exact h _ _ h1
            · rename_i hk; rw [if_neg hk]; exact h1
          rw [e1, sumW_mono h r b h2]
          exact k
theorem wtF_mono (l : List Bk) : ∀ (f i n : Nat), wtF l f i = some n → wtF l (f + 1) i = some n
  | 0, i, n, h => by cases h
  | f + 1, i, n, h => by
    rw [wtF] at h ⊢
    simp only [Option.map_eq_some_iff] at h ⊢
    obtain ⟨a, h1, h2⟩ := h
    exact ⟨a, sumW_mono (wtF_mono l f) _ _ h1, h2⟩
theorem wtF_le {l : List Bk} {i n : Nat} : ∀ {g f : Nat}, wtF l f i = some n → f ≤ g → wtF l g i = some n
  | 0, f, h, hf => by
    have : f = 0 := by omega
    subst this
    cases h
  | g + 1, f, h, hf => by
    by_cases he : f = g + 1
    · subst he; exact h
    · exact wtF_mono l g i n (wtF_le h (by omega))
theorem sumW_le {l : List Bk} {ss : List Sl} {n f g : Nat} (h : sumW (wtF l f) ss = some n) (hf : f ≤ g) : sumW (wtF l g) ss = some n :=
  sumW_mono (fun _ _ k => wtF_le k hf) _ _ h
theorem Wt.uniq {l : List Bk} {i n m : Nat} (h : Wt l i n) (k : Wt l i m) : n = m := by
  obtain ⟨f, h⟩ := h
  obtain ⟨g, k⟩ := k
  have h1 := wtF_le (g := max f g) h (by omega)
  have h2 := wtF_le (g := max f g) k (by omega)
  rw [h1] at h2
  exact Option.some.inj h2
theorem SumR.uniq {l : List Bk} {ss : List Sl} {n m : Nat} (h : SumR l ss n) (k : SumR l ss m) : n = m := by
  obtain ⟨f, h⟩ := h
  obtain ⟨g, k⟩ := k
  have h1 := sumW_le (g := max f g) h (by omega)
  have h2 := sumW_le (g := max f g) k (by omega)
  rw [h1] at h2
  exact Option.some.inj h2
theorem Wt.iff {l : List Bk} {i n : Nat} : Wt l i n ↔ ∃ m, SumR l (blk l i).tab.slots m ∧ n = m + 1 := by
  constructor
  · rintro ⟨f, h⟩
    cases f with
    | zero => cases h
    | succ f =>
      rw [wtF] at h
      simp only [Option.map_eq_some_iff] at h
      obtain ⟨m, h1, h2⟩ := h
      exact ⟨m, ⟨f, h1⟩, h2.symm⟩
  · rintro ⟨m, ⟨f, h⟩, rfl⟩
    refine ⟨f + 1, ?_⟩
    rw [wtF, h]
    rfl
theorem SumR.nil (l : List Bk) : SumR l [] 0 := ⟨0, rfl⟩
theorem sumW_append (g : Nat → Option Nat) : ∀ (p q : List Sl) (n : Nat), sumW g (p ++ q) = some n ↔ ∃ a b, sumW g p = some a ∧ sumW g q = some b ∧ n = a + b
  | [], q, n => by
    simp only [List.nil_append, sumW]
    constructor
    · intro h; exact ⟨0, n, rfl, h, by omega⟩
    · rintro ⟨a, b, h1, h2, rfl⟩
      cases h1
      rw [h2, Nat.zero_add]
  | s :: r, q, n => by
    rw [List.cons_append, sumW, sumW]
    cases hl : s.live with
    | false =>
      simp only [Bool.false_eq_true, if_false]
      exact sumW_append g r q n
    | true =>
      simp only [if_true]
      cases h1 : (if s.val.kind = 5 then g s.val.num.toNat else some 1) with
      | none => simp
      | some c =>
        constructor
        · intro h
          cases h2 : sumW g (r ++ q) with
          | none => rw [h2] at h; cases h
          | some e =>
            rw [h2] at h
            obtain ⟨a, b, k1, k2, rfl⟩ := (sumW_append g r q e).1 h2
            refine ⟨c + a, b, by rw [k1], k2, ?_⟩
            have := Option.some.inj h
            omega
        · rintro ⟨a, b, h2, h3, rfl⟩
          cases h4 : sumW g r with
          | none => rw [h4] at h2; cases h2
          | some e =>
            rw [h4] at h2
            rw [(sumW_append g r q (e + b)).2 ⟨e, b, h4, h3, rfl⟩]
            have := Option.some.inj h2
            show some (c + (e + b)) = some (a + b)
            congr 1
            omega
theorem SumR.one {l : List Bk} {s : Sl} {n : Nat} : SumR l [s] n ↔ (s.live = false ∧ n = 0) ∨ (s.live = true ∧ s.val.kind = 5 ∧ Wt l s.val.num.toNat n) ∨ (s.live = true ∧ ¬ s.val.kind = 5 ∧ n = 1) := by
  unfold SumR Wt
  simp only [sumW]
  cases hl : s.live with
  | false =>
    simp only [Bool.false_eq_true, if_false]
    constructor
    · rintro ⟨f, h⟩; exact .inl ⟨trivial, (Option.some.inj h).symm⟩
    · rintro (h | h | h)
      · exact ⟨0, by rw [h.2]⟩
      · exact absurd h.1 (by simp)
      · exact absurd h.1 (by simp)
  | true =>
    simp only [if_true]
    by_cases k : s.val.kind = 5
    · simp only [if_pos k]
      constructor
      · rintro ⟨f, h⟩
        cases h1 : wtF l f s.val.num.toNat with
        | none => rw [h1] at h; cases h
        | some a =>
          rw [h1] at h
          have : a + 0 = n := Option.some.inj h
          exact .inr (.inl ⟨trivial, k, f, by rw [h1, ← this, Nat.add_zero]⟩)
      · rintro (h | ⟨_, _, f, h⟩ | h)
        · exact absurd h.1 (by simp)
        · exact ⟨f, by rw [h]; rfl⟩
        · exact absurd k h.2.1
    · simp only [if_neg k]
      constructor
      · rintro ⟨f, h⟩
        have : 1 + 0 = n := Option.some.inj h
        exact .inr (.inr ⟨trivial, k, this.symm⟩)
      · rintro (h | h | h)
        · exact absurd h.1 (by simp)
        · exact absurd h.2.1 k
        · exact ⟨0, by rw [h.2.2]⟩
theorem SumR.append {l : List Bk} {p q : List Sl} {n : Nat} : SumR l (p ++ q) n ↔ ∃ a b, SumR l p a ∧ SumR l q b ∧ n = a + b := by
  constructor
  · rintro ⟨f, h⟩
    obtain ⟨a, b, h1, h2, h3⟩ := (sumW_append _ _ _ _).1 h
    exact ⟨a, b, ⟨f, h1⟩, ⟨f, h2⟩, h3⟩
  · rintro ⟨a, b, ⟨f, h1⟩, ⟨g, h2⟩, h3⟩
    exact ⟨max f g, (sumW_append _ _ _ _).2 ⟨a, b, sumW_le h1 (by omega), sumW_le h2 (by omega), h3⟩⟩
/-- a slot that counts is part of the sum -/
theorem SumR.part {l : List Bk} {ss : List Sl} {k : Nat} {s : Sl} {n : Nat} (hs : ss[k]? = some s) (h : SumR l ss n) : ∃ a b c, SumR l (ss.take k) a ∧ SumR l [s] b ∧ SumR l (ss.drop (k + 1)) c ∧ n = a + (b + c) := by
  rw [← List.take_append_drop k ss, drop_cons hs] at h
  obtain ⟨a, x, h1, h2, rfl⟩ := SumR.append.1 h
  rw [show s :: ss.drop (k + 1) = [s] ++ ss.drop (k + 1) from rfl] at h2
  obtain ⟨b, c, h3, h4, rfl⟩ := SumR.append.1 h2
  exact ⟨a, b, c, h1, h3, h4, rfl⟩
/-- what a live handle's block weighs is less than what its own block weighs -/
theorem Wt.kid {l : List Bk} {i n k : Nat} {s : Sl} (h : Wt l i n) (hs : (blk l i).tab.slots[k]? = some s) (hl : s.live = true) (hk : s.val.kind = 5) : ∃ m, Wt l s.val.num.toNat m ∧ m < n := by
  obtain ⟨m, h1, rfl⟩ := Wt.iff.1 h
  obtain ⟨a, b, c, _, h3, _, rfl⟩ := h1.part hs
  rcases SumR.one.1 h3 with q | q | q
  · rw [hl] at q; exact absurd q.1 (by simp)
  · exact ⟨b, q.2.2, by omega⟩
  · exact absurd hk q.2.1
/-- enough fuel is a block's own weight -/
theorem wtF_self {l : List Bk} : ∀ (f i n : Nat), wtF l f i = some n → wtF l n i = some n
  | 0, i, n, h => by cases h
  | f + 1, i, n, h => by
    rw [wtF] at h
    simp only [Option.map_eq_some_iff] at h
    obtain ⟨m, h1, rfl⟩ := h
    rw [wtF]
    simp only [Option.map_eq_some_iff]
    exact ⟨m, go f (wtF_self f) _ _ h1 m (Nat.le_refl _), rfl⟩
where go (f : Nat) (ih : ∀ i n, wtF l f i = some n → wtF l n i = some n) : ∀ (ss : List Sl) (n : Nat), sumW (wtF l f) ss = some n → ∀ m, n ≤ m → sumW (wtF l m) ss = some n
  | [], n, h, m, _ => h
  | s :: r, n, h, m, hm => by
    rw [sumW] at h ⊢
    cases hl : s.live with
    | false =>
      rw [hl] at h
      simp only [Bool.false_eq_true, if_false] at h ⊢
      exact go f ih r n h m hm
    | true =>
      rw [hl] at h
      simp only [if_true] at h ⊢
      cases h1 : (if s.val.kind = 5 then wtF l f s.val.num.toNat else some 1) with
      | none => rw [h1] at h; cases h
      | some a =>
        cases h2 : sumW (wtF l f) r with
        | none => rw [h1, h2] at h; cases h
        | some b =>
          rw [h1, h2] at h
          have e : a + b = n := Option.some.inj h
          have e1 : (if s.val.kind = 5 then wtF l m s.val.num.toNat else some 1) = some a := by
            split at h1
            · rename_i hk; rw [if_pos hk]; exact wtF_le (ih _ _ h1) (by omega)
            · rename_i hk; rw [if_neg hk]; exact h1
          rw [e1, go f ih r b h2 m (by omega)]
          exact h
theorem Wt.fuel {l : List Bk} {i n f : Nat} (h : Wt l i n) (hf : n ≤ f) : wtF l f i = some n := by
  obtain ⟨g, h⟩ := h
  exact wtF_le (wtF_self g i n h) hf
/-! the weight as the program reckons it: capped at 201 -/
structure Est (l : List Bk) (i n : Nat) : Prop where
  pos : 1 ≤ n
  cap : n ≤ 201
  is : n ≤ 200 → Wt l i n
  big : n = 201 → ∀ m, Wt l i m → 200 < m
structure EstS (l : List Bk) (ss : List Sl) (n : Nat) : Prop where
  pos : 1 ≤ n
  cap : n ≤ 201
  is : n ≤ 200 → SumR l ss (n - 1)
  big : n = 201 → ∀ m, SumR l ss m → 200 ≤ m
theorem EstS.le {l : List Bk} {ss : List Sl} {n m : Nat} (h : EstS l ss n) (k : SumR l ss m) : n - 1 ≤ m := by
  by_cases hn : n ≤ 200
  · have := (h.is hn).uniq k
    omega
  · have h1 := h.cap
    have := h.big (by omega) m k
    omega
theorem Est.le {l : List Bk} {i n m : Nat} (h : Est l i n) (k : Wt l i m) : n ≤ m := by
  by_cases hn : n ≤ 200
  · have := (h.is hn).uniq k
    omega
  · have h1 := h.cap
    have := h.big (by omega) m k
    omega
theorem EstS.nil (l : List Bk) : EstS l [] 1 := ⟨Nat.le_refl _, by omega, fun _ => SumR.nil l, fun h => by omega⟩
theorem EstS.skip {l : List Bk} {ss : List Sl} {k n : Nat} {s : Sl} (h : EstS l (ss.take k) n) (hs : ss[k]? = some s) (hl : s.live = false) : EstS l (ss.take (k + 1)) n := by
  rw [take_snoc hs]
  refine ⟨h.pos, h.cap, fun hn => ?_, fun hn m hm => ?_⟩
  · exact SumR.append.2 ⟨n - 1, 0, h.is hn, SumR.one.2 (.inl ⟨hl, rfl⟩), rfl⟩
  · obtain ⟨a, b, h1, _, rfl⟩ := SumR.append.1 hm
    have := h.big hn a h1
    omega
theorem EstS.one {l : List Bk} {ss : List Sl} {k n : Nat} {s : Sl} (h : EstS l (ss.take k) n) (hs : ss[k]? = some s) (hl : s.live = true) (hk : ¬ s.val.kind = 5) : EstS l (ss.take (k + 1)) (min (n + 1) 201) := by
  rw [take_snoc hs]
  have hp := h.pos
  refine ⟨by omega, by omega, fun hn => ?_, fun hn m hm => ?_⟩
  · exact SumR.append.2 ⟨n - 1, 1, h.is (by omega), SumR.one.2 (.inr (.inr ⟨hl, hk, rfl⟩)), by omega⟩
  · obtain ⟨a, b, h1, h2, rfl⟩ := SumR.append.1 hm
    have := h.le h1
    rcases SumR.one.1 h2 with q | q | q
    · rw [hl] at q; exact absurd q.1 (by simp)
    · exact absurd q.2.1 hk
    · omega
theorem EstS.kid {l : List Bk} {ss : List Sl} {k n e : Nat} {s : Sl} (h : EstS l (ss.take k) n) (hs : ss[k]? = some s) (hl : s.live = true) (hk : s.val.kind = 5) (he : Est l s.val.num.toNat e) : EstS l (ss.take (k + 1)) (min (n + e) 201) := by
  rw [take_snoc hs]
  have hp := h.pos
  have ep := he.pos
  refine ⟨by omega, by omega, fun hn => ?_, fun hn m hm => ?_⟩
  · exact SumR.append.2 ⟨n - 1, e, h.is (by omega), SumR.one.2 (.inr (.inl ⟨hl, hk, he.is (by omega)⟩)), by omega⟩
  · obtain ⟨a, b, h1, h2, rfl⟩ := SumR.append.1 hm
    have := h.le h1
    rcases SumR.one.1 h2 with q | q | q
    · rw [hl] at q; exact absurd q.1 (by simp)
    · have := he.le q.2.2
      omega
    · exact absurd hk q.2.1
theorem EstS.est {l : List Bk} {i n : Nat} (h : EstS l (blk l i).tab.slots n) : Est l i n := by
  have hp := h.pos
  refine ⟨hp, h.cap, fun hn => Wt.iff.2 ⟨n - 1, h.is hn, by omega⟩, fun hn m hm => ?_⟩
  obtain ⟨a, h1, rfl⟩ := Wt.iff.1 hm
  have := h.big hn a h1
  omega
/-- what is known of the weights that the program has found so far -/
structure wInv (l : List Bk) (ws : List Int) : Prop where
  len : ws.length = l.length
  low : ∀ (j : Nat) (x : Int), ws[j]? = some x → -1 ≤ x
  est : ∀ (j : Nat) (x : Int), ws[j]? = some x → 0 < x → Est l j x.toNat
/-- a block that is being reckoned weighs more than the one that is reached -/
def wPath (l : List Bk) (ws : List Int) (i : Nat) : Prop := ∀ p : Nat, ws[p]? = some (-1) → ∀ m, Wt l p m → ∃ n, Wt l i n ∧ n < m
/-- how the found weights grow -/
structure wGrow (ws us : List Int) : Prop where
  keep : ∀ (j : Nat) (x : Int), ws[j]? = some x → ¬ x = 0 → us[j]? = some x
  new : ∀ j : Nat, ws[j]? = some 0 → ∃ x : Int, 0 ≤ x ∧ us[j]? = some x
theorem wGrow.refl (ws : List Int) : wGrow ws ws := ⟨fun _ _ h _ => h, fun _ h => ⟨0, Int.le_refl _, h⟩⟩
theorem wGrow.trans {ws us vs : List Int} (h : wGrow ws us) (k : wGrow us vs) : wGrow ws vs := by
  refine ⟨fun j x hj hx => k.keep j x (h.keep j x hj hx) hx, fun j hj => ?_⟩
  obtain ⟨x, hx, hu⟩ := h.new j hj
  by_cases h0 : x = 0
  · subst h0
    exact k.new j hu
  · exact ⟨x, hx, k.keep j x hu h0⟩
def zer : List Int → Nat
  | [] => 0
  | x :: r => (if x = 0 then 1 else 0) + zer r
theorem zer_set : ∀ {ws : List Int} {i : Nat} {x : Int}, ws[i]? = some 0 → ¬ x = 0 → zer (ws.set i x) + 1 = zer ws
  | [], i, x, h, _ => by simp at h
  | y :: r, 0, x, h, hx => by
    simp only [List.getElem?_cons_zero, Option.some.injEq] at h
    subst h
    simp only [List.set_cons_zero, zer, if_neg hx, if_true]
    omega
  | y :: r, i + 1, x, h, hx => by
    simp only [List.getElem?_cons_succ] at h
    simp only [List.set_cons_succ, zer]
    have := zer_set h hx
    omega
theorem zer_grow : ∀ {ws us : List Int}, us.length = ws.length → wGrow ws us → zer us ≤ zer ws
  | [], us, hl, _ => by
    have : us = [] := List.eq_nil_of_length_eq_zero hl
    subst this
    exact Nat.le_refl _
  | y :: r, [], hl, _ => by simp at hl
  | y :: r, z :: s, hl, g => by
    have h1 : wGrow r s := ⟨fun j x hj hx => by simpa using g.keep (j + 1) x (by simpa using hj) hx, fun j hj => by simpa using g.new (j + 1) (by simpa using hj)⟩
    have h2 := zer_grow (by simpa using hl) h1
    simp only [zer]
    by_cases hz : z = 0
    · by_cases hy : y = 0
      · rw [if_pos hz, if_pos hy]; omega
      · have := g.keep 0 y rfl hy
        simp only [List.getElem?_cons_zero, Option.some.injEq] at this
        exact absurd (this ▸ hz) hy
    · rw [if_neg hz]; omega
/-- the block reached is marked -/
theorem wInv.mark {l : List Bk} {ws : List Int} (w : wInv l ws) {i : Nat} : wInv l (ws.set i (-1)) := by
  refine ⟨by rw [List.length_set, w.len], fun j x hj => ?_, fun j x hj hx => ?_⟩
  · rw [List.getElem?_set] at hj
    split at hj
    · split at hj
      · cases hj; omega
      · cases hj
    · exact w.low j x hj
  · rw [List.getElem?_set] at hj
    split at hj
    · split at hj
      · cases hj; omega
      · cases hj
    · exact w.est j x hj hx
theorem wPath.kid {l : List Bk} {ws us : List Int} {i k : Nat} {s : Sl} (p : wPath l ws i) (hi : i < ws.length) (_ : ws[i]? = some 0) (g : wGrow (ws.set i (-1)) us) (hs : (blk l i).tab.slots[k]? = some s) (hl : s.live = true) (hk : s.val.kind = 5) (hu : us.length = ws.length) : wPath l us s.val.num.toNat := by
  intro q hq m hm
  have back : (ws.set i (-1))[q]? = some (-1) := by
    have hlt : q < ws.length := by
      have := (List.getElem?_eq_some_iff.1 hq).1
      omega
    obtain ⟨x, hx⟩ : ∃ x, (ws.set i (-1))[q]? = some x := ⟨_, List.getElem?_eq_getElem (by rw [List.length_set]; exact hlt)⟩
    by_cases h0 : x = 0
    · subst h0
      obtain ⟨y, hy, hy2⟩ := g.new q hx
      rw [hq] at hy2
      cases hy2
      omega
    · have := g.keep q x hx h0
      rw [hq] at this
      rw [hx, ← this]
  rw [List.getElem?_set] at back
  split at back
  · rename_i he
    subst he
    exact hm.kid hs hl hk
  · obtain ⟨n, hn, hlt⟩ := p q back m hm
    obtain ⟨n', hn', hlt'⟩ := hn.kid hs hl hk
    exact ⟨n', hn', by omega⟩
/-- the block's weight is put down -/
theorem wInv.done {l : List Bk} {ws : List Int} (w : wInv l ws) {i n : Nat} (e : Est l i n) : wInv l (ws.set i (n : Nat)) := by
  have := e.pos
  refine ⟨by rw [List.length_set, w.len], fun j x hj => ?_, fun j x hj hx => ?_⟩
  · rw [List.getElem?_set] at hj
    split at hj
    · split at hj
      · cases hj; omega
      · cases hj
    · exact w.low j x hj
  · rw [List.getElem?_set] at hj
    split at hj
    · rename_i he
      subst he
      split at hj
      · cases hj; exact e
      · cases hj
    · exact w.est j x hj hx
theorem wGrow.done {ws us : List Int} {i n : Nat} (g : wGrow (ws.set i (-1)) us) (hz : ws[i]? = some 0) (hu : us.length = ws.length) (hn : 1 ≤ n) : wGrow ws (us.set i (n : Nat)) := by
  have hi := (List.getElem?_eq_some_iff.1 hz).1
  refine ⟨fun j x hj hx => ?_, fun j hj => ?_⟩
  · have hne : ¬ i = j := by
      intro he
      subst he
      rw [hz] at hj
      cases hj
      exact hx rfl
    rw [List.getElem?_set, if_neg hne]
    exact g.keep j x (by rw [List.getElem?_set, if_neg hne]; exact hj) hx
  · rw [List.getElem?_set]
    split
    · exact ⟨(n : Nat), by omega, by rw [if_pos (by omega)]⟩
    · rename_i hne
      exact g.new j (by rw [List.getElem?_set, if_neg hne]; exact hj)
/-- a block that is reached while it is being reckoned weighs nothing that is known -/
theorem Est.loop {l : List Bk} {ws : List Int} {i : Nat} (p : wPath l ws i) (h : ws[i]? = some (-1)) : Est l i 201 := by
  refine ⟨by omega, by omega, fun h => by omega, fun _ m hm => ?_⟩
  obtain ⟨n, hn, hlt⟩ := p i h m hm
  have := hn.uniq hm
  omega
/-! which heaps are right -/
def Bk.free (b : Bk) : Bool := !b.tab.hashed && (decide (b.tab.heads.length = 0) && (decide (b.tab.slots.length = 0) && (decide (b.tab.next = 0) && decide (b.tab.count = 0))))
def bkOk (l : List Bk) (b : Bk) : Bool :=
  if b.count = 0 then b.free else decide (1 ≤ b.count ∧ b.count ≤ 1000000000000) && (b.tab.isTab && allIx b.tab.slots.length fun k => at_ b.tab.slots k fun (s : Sl) => !s.live || isHeld l s.val)
/-- no block weighs more than 200 -/
def lightB (l : List Bk) : Bool := allIx l.length fun i => at_ l i fun b => decide (b.count ≤ 0) || (match wtF l 200 i with
  | some n => decide (n ≤ 200)
  | none => false)
def heapB (l : List Bk) : Bool := allIx l.length (fun i => at_ l i (bkOk l)) && lightB l
theorem lightB_iff {l : List Bk} : lightB l = true ↔ ∀ (i : Nat) (b : Bk), l[i]? = some b → 0 < b.count → ∃ n, n ≤ 200 ∧ Wt l i n := by
  unfold lightB
  rw [allIx_iff]
  constructor
  · intro h i b hb hc
    have := at_iff.1 (h i (List.getElem?_eq_some_iff.1 hb).1) b hb
    rw [decide_eq_false (by omega), Bool.false_or] at this
    split at this
    · rename_i n hn
      exact ⟨n, by simpa using this, 200, hn⟩
    · cases this
  · intro h i _
    refine at_iff.2 fun b hb => ?_
    by_cases hc : b.count ≤ 0
    · rw [decide_eq_true hc]; rfl
    · obtain ⟨n, hn, hw⟩ := h i b hb (by omega)
      rw [hw.fuel hn, decide_eq_false hc, Bool.false_or]
      exact decide_eq_true hn
/-- what is known of a right heap -/
structure hOk (l : List Bk) : Prop where
  blk : ∀ (i : Nat) (b : Bk), l[i]? = some b → bkOk l b = true
  light : ∀ (i : Nat) (b : Bk), l[i]? = some b → 0 < b.count → ∃ n, n ≤ 200 ∧ Wt l i n
theorem heapB_iff {l : List Bk} : heapB l = true ↔ hOk l := by
  unfold heapB
  rw [Bool.and_eq_true, allIx_iff, lightB_iff]
  constructor
  · rintro ⟨h1, h2⟩
    exact ⟨fun i b hb => at_iff.1 (h1 i (List.getElem?_eq_some_iff.1 hb).1) b hb, h2⟩
  · intro h
    exact ⟨fun i _ => at_iff.2 fun b hb => h.blk i b hb, h.light⟩
theorem noHeap {l : List Bk} (h : hOk l → False) : heapB l = false := by
  cases hb : heapB l with
  | false => rfl
  | true => exact (h (heapB_iff.1 hb)).elim
theorem bkOk_free {l : List Bk} {b : Bk} (h : b.count = 0) : bkOk l b = b.free := if_pos h
theorem bkOk_live {l : List Bk} {b : Bk} (h : ¬ b.count = 0) : bkOk l b = true ↔ (1 ≤ b.count ∧ b.count ≤ 1000000000000) ∧ b.tab.isTab = true ∧ ∀ (k : Nat) (s : Sl), b.tab.slots[k]? = some s → s.live = true → isHeld l s.val = true := by
  unfold bkOk
  rw [if_neg h, Bool.and_eq_true, Bool.and_eq_true, decide_eq_true_eq, allAt_iff]
  refine and_congr Iff.rfl (and_congr Iff.rfl ⟨fun q k s hs hl => ?_, fun q k s hs => ?_⟩)
  · have := q k s hs
    rw [hl] at this
    simpa using this
  · cases hl : s.live with
    | false => rfl
    | true => rw [q k s hs hl]; rfl
theorem free_slots {b : Bk} (h : b.free = true) : b.tab.slots = [] := by
  unfold Bk.free at h
  simp only [Bool.and_eq_true, decide_eq_true_eq] at h
  exact List.eq_nil_of_length_eq_zero h.2.2.1
/-- live handles point at live blocks -/
def inR (l : List Bk) : Prop := ∀ (i : Nat) (b : Bk), l[i]? = some b → ∀ (k : Nat) (s : Sl), b.tab.slots[k]? = some s → s.live = true → isHeld l s.val = true
theorem hOk.inR {l : List Bk} (h : hOk l) : inR l := by
  intro i b hb k s hs hl
  have := h.blk i b hb
  by_cases hc : b.count = 0
  · rw [bkOk_free hc] at this
    rw [free_slots this] at hs
    simp at hs
  · exact ((bkOk_live hc).1 this).2.2 k s hs hl
/-! the weights as the reference finds them: in rounds -/
def leftN (l : List Bk) (w : List Int) : Nat → Nat
  | 0 => 0
  | k + 1 => leftN l w k + if 0 < (blk l k).count ∧ w.getD k 0 = 0 then 1 else 0
theorem leftN_zero {l : List Bk} {w : List Int} : ∀ {k : Nat}, leftN l w k = 0 → ∀ i, i < k → 0 < (blk l i).count → ¬ w.getD i 0 = 0
  | 0, _, i, hi, _ => by omega
  | k + 1, h, i, hi, hc => by
    rw [leftN] at h
    by_cases he : i = k
    · subst he
      intro hw
      rw [if_pos ⟨hc, hw⟩] at h
      omega
    · exact leftN_zero (k := k) (by omega) i (by omega) hc
theorem leftN_none {l : List Bk} {w : List Int} : ∀ {k : Nat}, (∀ i, i < k → 0 < (blk l i).count → ¬ w.getD i 0 = 0) → leftN l w k = 0
  | 0, _ => rfl
  | k + 1, h => by
    rw [leftN, leftN_none fun i hi => h i (by omega), if_neg fun q => h k (by omega) q.1 q.2]
theorem getD_set_ne {w : List Int} {i j : Nat} {x : Int} (h : ¬ i = j) : (w.set i x).getD j 0 = w.getD j 0 := by
  rw [List.getD_eq_getElem?_getD, List.getD_eq_getElem?_getD, List.getElem?_set, if_neg h]
theorem getD_set_same {w : List Int} {i : Nat} {x : Int} (h : i < w.length) : (w.set i x).getD i 0 = x := by
  rw [List.getD_eq_getElem?_getD, List.getElem?_set, if_pos rfl, if_pos h]
  rfl
theorem leftN_set {l : List Bk} {w : List Int} {i : Nat} {x : Int} (hw : i < w.length) (hc : 0 < (blk l i).count) (h0 : w.getD i 0 = 0) (hx : ¬ x = 0) : ∀ k, leftN l (w.set i x) k + (if i < k then 1 else 0) = leftN l w k
  | 0 => by simp [leftN]
  | k + 1 => by
    have ih := leftN_set hw hc h0 hx k
    rw [leftN, leftN]
    by_cases he : i = k
    · subst he
      rw [getD_set_same hw, if_neg (show ¬ (0 < (blk l i).count ∧ x = 0) from fun q => hx q.2), if_pos (show 0 < (blk l i).count ∧ w.getD i 0 = 0 from ⟨hc, h0⟩), if_pos (show i < i + 1 by omega)]
      rw [if_neg (show ¬ i < i by omega)] at ih
      omega
    · rw [getD_set_ne he]
      by_cases hk : i < k
      · rw [if_pos hk] at ih
        rw [if_pos (show i < k + 1 by omega)]
        omega
      · rw [if_neg hk] at ih
        rw [if_neg (show ¬ i < k + 1 by omega)]
        omega
theorem leftN_le (l : List Bk) (w : List Int) : ∀ k, leftN l w k ≤ k
  | 0 => Nat.le_refl _
  | k + 1 => by
    rw [leftN]
    have := leftN_le l w k
    split <;> omega
/-- what is known on the way; 'r' rounds are done, and of this round the first 'i' -/
structure rInv (l : List Bk) (w : List Int) (r i : Nat) : Prop where
  len : w.length = l.length
  wt : ∀ (j : Nat) (x : Int), w[j]? = some x → ¬ x = 0 → 0 < x ∧ x ≤ 200 ∧ Wt l j x.toNat ∧ 0 < (blk l j).count
  done : ∀ (j n : Nat), j < l.length → 0 < (blk l j).count → wtF l r j = some n → n ≤ 200 → ¬ w.getD j 0 = 0
  now : ∀ (j n : Nat), j < i → j < l.length → 0 < (blk l j).count → wtF l (r + 1) j = some n → n ≤ 200 → ¬ w.getD j 0 = 0
theorem rInv.next {l : List Bk} {w : List Int} {r : Nat} (h : rInv l w r l.length) : rInv l w (r + 1) 0 :=
  ⟨h.len, h.wt, fun j n hj hc hw hn => h.now j n hj hj hc hw hn, fun j n hj => by omega⟩
theorem rInv.start {l : List Bk} {w : List Int} (hl : w.length = l.length) (hz : ∀ (j : Nat) (x : Int), w[j]? = some x → x = 0) : rInv l w 0 0 :=
  ⟨hl, fun j x hj hx => absurd (hz j x hj) hx, fun j n _ _ h => (by cases h), fun j n hj => by omega⟩
/-- the block is free or known -/
theorem rInv.skip {l : List Bk} {w : List Int} {r i : Nat} (h : rInv l w r i) (hs : (blk l i).count ≤ 0 ∨ ¬ w.getD i 0 = 0) : rInv l w r (i + 1) := by
  refine ⟨h.len, h.wt, h.done, fun j n hj hl hc hw hn => ?_⟩
  by_cases he : j = i
  · subst he
    rcases hs with hs | hs
    · omega
    · exact hs
  · exact h.now j n (by omega) hl hc hw hn
/-- the block is found -/
theorem rInv.put {l : List Bk} {w : List Int} {r i n : Nat} (h : rInv l w r i) (hi : i < l.length) (hc : 0 < (blk l i).count) (h0 : w.getD i 0 = 0) (hw : Wt l i n) (h1 : 1 ≤ n) (hn : n ≤ 200) : rInv l (w.set i (n : Nat)) r (i + 1) := by
  have hlen := h.len
  have keep : ∀ j, ¬ w.getD j 0 = 0 → ¬ (w.set i (n : Nat)).getD j 0 = 0 := fun j hj => by
    by_cases he : i = j
    · subst he; exact absurd h0 hj
    · rw [getD_set_ne he]; exact hj
  refine ⟨by rw [List.length_set, hlen], fun j x hj hx => ?_, fun j m hj hcj hwj hm => keep j (h.done j m hj hcj hwj hm), fun j m hj hl hcj hwj hm => ?_⟩
  · rw [List.getElem?_set] at hj
    split at hj
    · rename_i he
      subst he
      split at hj
      · cases hj
        exact ⟨by omega, by omega, hw, hc⟩
      · cases hj
    · exact h.wt j x hj hx
  · by_cases he : i = j
    · subst he
      rw [getD_set_same (by omega)]
      omega
    · exact keep j (h.now j m (by omega) hl hcj hwj hm)
/-- the block has a kid that is not known: it is not yet this round's -/
theorem rInv.wait {l : List Bk} {w : List Int} {r i k : Nat} {s : Sl} (h : rInv l w r i) (hs : (blk l i).tab.slots[k]? = some s) (hl : s.live = true) (hk : s.val.kind = 5) (hh : isHeld l s.val = true) (h0 : w.getD s.val.num.toNat 0 = 0) : rInv l w r (i + 1) := by
  refine ⟨h.len, h.wt, h.done, fun j n hj hlj hc hw hn => ?_⟩
  by_cases he : j = i
  · subst he
    exfalso
    rw [wtF] at hw
    simp only [Option.map_eq_some_iff] at hw
    obtain ⟨m, hm, rfl⟩ := hw
    rw [← List.take_append_drop k (blk l j).tab.slots, drop_cons hs] at hm
    obtain ⟨a, x, _, h2, rfl⟩ := (sumW_append _ _ _ _).1 hm
    rw [sumW, hl, if_pos rfl, if_pos hk] at h2
    obtain ⟨q1, q2, q3⟩ := held_num hh hk
    cases h3 : wtF l r s.val.num.toNat with
    | none => rw [h3] at h2; cases h2
    | some c =>
      rw [h3] at h2
      cases h4 : sumW (wtF l r) (List.drop (k + 1) (blk l j).tab.slots) with
      | none => rw [h4] at h2; cases h2
      | some d =>
        rw [h4] at h2
        have e : c + d = x := Option.some.inj h2
        exact h.done _ c q2 q3 h3 (by omega) h0
  · exact h.now j n (by omega) hlj hc hw hn
/-- a kid that is known -/
theorem rInv.kid {l : List Bk} {w : List Int} {r i : Nat} {v : V} (h : rInv l w r i) (hh : isHeld l v = true) (hk : v.kind = 5) (h0 : ¬ w.getD v.num.toNat 0 = 0) : ∃ n : Nat, w[v.num.toNat]? = some (n : Int) ∧ 1 ≤ n ∧ n ≤ 200 ∧ Wt l v.num.toNat n := by
  obtain ⟨q1, q2, q3⟩ := held_num hh hk
  have hg : w[v.num.toNat]? = some (w.getD v.num.toNat 0) := by
    rw [List.getD_eq_getElem?_getD, List.getElem?_eq_getElem (by rw [h.len]; exact q2)]
    rfl
  obtain ⟨p1, p2, p3, _⟩ := h.wt _ _ hg h0
  refine ⟨(w.getD v.num.toNat 0).toNat, ?_, by omega, by omega, p3⟩
  rw [hg]
  congr 1
  omega
/-- all rounds are done and something is left: it is too heavy -/
theorem rInv.stop {l : List Bk} {w : List Int} (h : rInv l w 201 0) (hl : ¬ leftN l w l.length = 0) (hL : ∀ (i : Nat) (b : Bk), l[i]? = some b → 0 < b.count → ∃ n, n ≤ 200 ∧ Wt l i n) : False := by
  refine hl (leftN_none fun i hi hc => ?_)
  obtain ⟨n, hn, hw⟩ := hL i _ (blk_at hi) hc
  exact h.done i n hi hc (hw.fuel (by omega)) hn
/-- nothing is left -/
theorem rInv.light {l : List Bk} {w : List Int} {r i : Nat} (h : rInv l w r i) (hl : leftN l w l.length = 0) : ∀ (i : Nat) (b : Bk), l[i]? = some b → 0 < b.count → ∃ n, n ≤ 200 ∧ Wt l i n := by
  intro j b hb hc
  have hj := (List.getElem?_eq_some_iff.1 hb).1
  have hg : w[j]? = some (w.getD j 0) := by
    rw [List.getD_eq_getElem?_getD, List.getElem?_eq_getElem (by rw [h.len]; exact hj)]
    rfl
  have := leftN_zero hl j hj (by rw [blk_get hb]; exact hc)
  obtain ⟨p1, p2, p3, _⟩ := h.wt _ _ hg this
  exact ⟨_, by omega, p3⟩
end Go.Sx
namespace Go.Sx
open Go
/-- no weight is being reckoned -/
def nNeg (ws : List Int) : Prop := ∀ (j : Nat) (x : Int), ws[j]? = some x → 0 ≤ x
theorem nNeg.path {l : List Bk} {ws : List Int} (h : nNeg ws) (i : Nat) : wPath l ws i := fun p hp => by
  have := h p _ hp
  omega
theorem nNeg.grow {ws us : List Int} (h : nNeg ws) (hl : us.length = ws.length) (g : wGrow ws us) : nNeg us := by
  intro j x hj
  have hlt := (List.getElem?_eq_some_iff.1 hj).1
  obtain ⟨y, hy, _⟩ := get_lt (l := ws) (i := j) (by omega)
  by_cases h0 : y = 0
  · subst h0
    obtain ⟨z, hz, hu⟩ := g.new j hy
    rw [hj] at hu
    cases hu
    exact hz
  · have := g.keep j y hy h0
    rw [hj] at this
    cases this
    exact h j _ hy
theorem wInv.zero (l : List Bk) : wInv l (List.replicate l.length 0) ∧ nNeg (List.replicate l.length 0) := by
  have key : ∀ (j : Nat) (x : Int), (List.replicate l.length (0 : Int))[j]? = some x → x = 0 := fun j x hj => by
    have := List.mem_of_getElem? hj
    rw [List.mem_replicate] at this
    exact this.2
  exact ⟨⟨List.length_replicate, fun j x hj => (by have := key j x hj; omega), fun j x hj hx => (by have := key j x hj; omega)⟩, fun j x hj => by have := key j x hj; omega⟩
theorem rInv.zero (l : List Bk) : rInv l (List.replicate l.length 0) 0 0 := rInv.start List.length_replicate fun j x hj => by
  have := List.mem_of_getElem? hj
  rw [List.mem_replicate] at this
  exact this.2
theorem repl_getD (n i : Nat) : (List.replicate n (0 : Int)).getD i 0 = 0 := by
  rw [List.getD_eq_getElem?_getD, List.getElem?_replicate]
  split <;> rfl
end Go.Sx
namespace Go.Proofs.YtedfplodobpgfaaGreatDoor
set_option maxRecDepth 8000
open Go Go.Sx
theorem iIsHeld (l : List Bk) (v : V) (hl : l.length ≤ 1099511627776) (hb : v.bulk ≤ 1099511627776) (s sl : Value) (h : Hp) (r1 : RdB h l s) (r2 : RdE h v.items sl) (hE : Env h) : ACalls Tryz.prog 80 #[.agg #[s], .agg #[.int .i64 v.kind, .int .i64 v.num, .string v.str, .int .i64 v.next, sl]] h (Is (.bool (isHeld l v)) h) := by
  obtain ⟨a1, c1, xs1, rfl, hc1, hr1, hat1⟩ := r1.rows (by decide) l.length (fm_len Bk.dt_len _)
  obtain ⟨a2, c2, _, rfl, _⟩ := r2.rows (by decide) v.items.length (fm_len edt_len _)
  have hw : IntKind.i64.wrap ((l.length : Int) - 1) = (l.length : Int) - 1 := IntWalk.i64_in _ (by omega)
  (refine enter Tryz.func80 rfl rfl (by kernel_rfl) [] ?_; simp only [go_sem, Nat.reduceBEq])
  by_cases hk : v.kind = 5
  case neg =>
    simp only [decide_eq_false hk, Bool.not_false, go_sem, Nat.reduceBEq]
    by_cases h4 : v.kind = 4
    · simp only [decide_eq_true h4, Bool.not_true, go_sem, Nat.reduceBEq]
      exact ⟨by unfold isHeld; rw [if_neg hk, decide_eq_true h4]; rfl, Ext.refl _⟩
    · simp only [decide_eq_false h4, Bool.not_false, go_sem, Nat.reduceBEq, Nat.reduceAdd, Nat.reduceLeDiff]
      refine (iIsValue v hb _ _ r2 hE).mono ?_
      rintro _ h1 ⟨rfl, e1⟩
      simp only [go_sem, Nat.reduceBEq]
      exact ⟨by unfold isHeld; rw [if_neg hk, decide_eq_false h4, V.valid_wf h4]; rfl, e1⟩
  have hH : isHeld l v = hHeld l v := if_pos hk
  rw [hH]
  unfold hHeld
  simp only [decide_eq_true hk, Bool.not_true, go_sem, Nat.reduceBEq]
  by_cases h1 : v.str = ⟨#[]⟩
  case neg =>
    simp only [decide_eq_false h1, Bool.false_and, go_sem, Nat.reduceBEq]
    exact ⟨rfl, Ext.refl _⟩
  by_cases h2 : v.next = 0
  case neg =>
    simp only [decide_eq_true h1, decide_eq_false h2, Bool.true_and, Bool.false_and, go_sem, Nat.reduceBEq]
    exact ⟨rfl, Ext.refl _⟩
  by_cases h3 : v.items.length = 0
  case neg =>
    simp only [decide_eq_true h1, decide_eq_true h2, decide_eq_false h3, decide_eq_false (show ¬ ((v.items.length : Nat) : Int) = 0 by omega), Bool.true_and, Bool.false_and, go_sem, Nat.reduceBEq]
    exact ⟨rfl, Ext.refl _⟩
  simp only [decide_eq_true h1, decide_eq_true h2, decide_eq_true h3, decide_eq_true (show ((v.items.length : Nat) : Int) = 0 by omega), Bool.true_and, hw, go_sem, Nat.reduceBEq]
  (refine (iInRange _ _ _ _).mono ?_; rintro _ _ ⟨rfl, rfl⟩; simp only [go_sem, Nat.reduceBEq])
  by_cases h5 : 0 ≤ v.num ∧ v.num ≤ (l.length : Int) - 1
  case neg =>
    simp only [decide_eq_false h5, Bool.false_and, go_sem, Nat.reduceBEq]
    exact ⟨rfl, Ext.refl _⟩
  have hlt : v.num.toNat < l.length := by omega
  obtain ⟨b, off, rfl, hat'⟩ := hat1 (by omega)
  simp only [decide_eq_true h5, Bool.true_and, ix_int h5.1 hlt, go_sem, Nat.reduceBEq]
  refine hsem_bcnt tyS3 hat' hr1 (blk_at hlt) rfl ?_
  simp only [go_sem, Nat.reduceBEq]
  exact ⟨rfl, Ext.refl _⟩
theorem sHandle (v : V) (sl : Value) (h : Hp) (r2 : RdE h v.items sl) : ACalls Tryz.prog 134 #[.agg #[.int .i64 v.kind, .int .i64 v.num, .string v.str, .int .i64 v.next, sl]] h (Pu (.bool (decide (v.kind = 5) && (decide (v.str = ⟨#[]⟩) && (decide (v.next = 0) && decide (v.items.length = 0))))) h) := by
  obtain ⟨a2, c2, _, rfl, _⟩ := r2.rows (by decide) v.items.length (fm_len edt_len _)
  (refine enter Tryz.func134 rfl rfl (by kernel_rfl) [] ?_; simp only [go_sem, Nat.reduceBEq])
  by_cases hk : v.kind = 5
  case neg =>
    simp only [decide_eq_false hk, Bool.false_and, go_sem, Nat.reduceBEq]
    exact ⟨rfl, rfl⟩
  by_cases h1 : v.str = ⟨#[]⟩
  case neg =>
    simp only [decide_eq_true hk, decide_eq_false h1, Bool.true_and, Bool.false_and, go_sem, Nat.reduceBEq]
    exact ⟨rfl, rfl⟩
  by_cases h2 : v.next = 0
  case neg =>
    simp only [decide_eq_true hk, decide_eq_true h1, decide_eq_false h2, Bool.true_and, Bool.false_and, go_sem, Nat.reduceBEq]
    exact ⟨rfl, rfl⟩
  simp only [decide_eq_true hk, decide_eq_true h1, decide_eq_true h2, Bool.true_and, go_sem, Nat.reduceBEq]
  exact ⟨by rw [show decide (((v.items.length : Nat) : Int) = 0) = decide (v.items.length = 0) from decide_eq_decide.2 (by omega)], rfl⟩
theorem sIsHeld (l : List Bk) (v : V) (hl : l.length ≤ 1099511627776) (hb : v.bulk ≤ 1099511627776) (s sl : Value) (h : Hp) (r1 : RdB h l s) (r2 : RdE h v.items sl) : ACalls Tryz.prog 76 #[.agg #[s], .agg #[.int .i64 v.kind, .int .i64 v.num, .string v.str, .int .i64 v.next, sl]] h (Is (.bool (isHeld l v)) h) := by
  obtain ⟨a1, c1, xs1, rfl, hc1, hr1, hat1⟩ := r1.rows (by decide) l.length (fm_len Bk.dt_len _)
  obtain ⟨a2, c2, _, rfl, _⟩ := r2.rows (by decide) v.items.length (fm_len edt_len _)
  have hw : IntKind.i64.wrap ((l.length : Int) - 1) = (l.length : Int) - 1 := IntWalk.i64_in _ (by omega)
  (refine enter Tryz.func76 rfl rfl (by kernel_rfl) [] ?_; simp only [go_sem, Nat.reduceBEq])
  by_cases hk : v.kind = 5
  case neg =>
    simp only [decide_eq_false hk, go_sem, Nat.reduceBEq]
    by_cases h4 : v.kind = 4
    · simp only [decide_eq_true h4, Bool.not_true, go_sem, Nat.reduceBEq]
      exact ⟨by unfold isHeld; rw [if_neg hk, decide_eq_true h4]; rfl, Ext.refl _⟩
    · simp only [decide_eq_false h4, Bool.not_false, go_sem, Nat.reduceBEq, Nat.reduceAdd, Nat.reduceLeDiff]
      refine (sWell v hb _ _ r2).mono ?_
      rintro _ h1 ⟨rfl, e1⟩
      simp only [go_sem, Nat.reduceBEq]
      exact ⟨by unfold isHeld; rw [if_neg hk, decide_eq_false h4]; rfl, e1⟩
  have hH : isHeld l v = hHeld l v := if_pos hk
  rw [hH]
  unfold hHeld
  simp only [decide_eq_true hk, go_sem, Nat.reduceBEq, Nat.reduceAdd, Nat.reduceLeDiff]
  (refine (sHandle v _ _ r2).mono ?_; rintro _ _ ⟨rfl, rfl⟩; simp only [go_sem, Nat.reduceBEq])
  simp only [decide_eq_true hk, Bool.true_and, go_sem]
  by_cases h1 : v.str = ⟨#[]⟩
  case neg =>
    simp only [decide_eq_false h1, Bool.false_and, go_sem, Nat.reduceBEq]
    exact ⟨rfl, Ext.refl _⟩
  by_cases h2 : v.next = 0
  case neg =>
    simp only [decide_eq_true h1, decide_eq_false h2, Bool.true_and, Bool.false_and, go_sem, Nat.reduceBEq]
    exact ⟨rfl, Ext.refl _⟩
  by_cases h3 : v.items.length = 0
  case neg =>
    simp only [decide_eq_true h1, decide_eq_true h2, decide_eq_false h3, Bool.true_and, Bool.false_and, go_sem, Nat.reduceBEq]
    exact ⟨rfl, Ext.refl _⟩
  simp only [decide_eq_true h1, decide_eq_true h2, decide_eq_true h3, Bool.true_and, hw, go_sem, Nat.reduceBEq]
  (refine (l1In_c _ _ _ _).mono ?_; rintro _ _ ⟨rfl, rfl⟩; simp only [go_sem, Nat.reduceBEq])
  by_cases h5 : 0 ≤ v.num ∧ v.num ≤ (l.length : Int) - 1
  case neg =>
    simp only [decide_eq_false h5, Bool.false_and, go_sem, Nat.reduceBEq]
    exact ⟨rfl, Ext.refl _⟩
  have hlt : v.num.toNat < l.length := by omega
  obtain ⟨b, off, rfl, hat'⟩ := hat1 (by omega)
  simp only [decide_eq_true h5, Bool.true_and, ix_int h5.1 hlt, go_sem, Nat.reduceBEq]
  refine hsem_bcnt tyS3 hat' hr1 (blk_at hlt) rfl ?_
  simp only [go_sem, Nat.reduceBEq]
  exact ⟨rfl, Ext.refl _⟩
end Go.Proofs.YtedfplodobpgfaaGreatDoor
namespace Go.Proofs.YtedfplodobpgfaaGreatDoor
set_option maxRecDepth 8000
open Go Go.Sx
theorem bulks_mem' : ∀ {es : List (Ky × V)} {e : Ky × V}, e ∈ es → V.bulks e.2.items ≤ V.bulks es
  | (k, v) :: r, e, he => by
    simp only [V.bulks, V.bulk_eq]
    cases he with
    | head => simp only; omega
    | tail _ he => have := bulks_mem' he; omega
theorem bulks_len' : ∀ es : List (Ky × V), es.length ≤ V.bulks es
  | [] => Nat.le_refl _
  | (k, v) :: r => by
    have := bulks_len' r
    simp only [V.bulks, List.length_cons]
    omega
def Made (h : Hp) (v : V) (u : Value) (h' : Hp) : Prop := ∃ a c, u = .agg #[.int .i64 v.kind, .int .i64 v.num, .string v.str, .int .i64 v.next, .slice a v.items.length c] ∧ My h h' [(.row 8 (v.items.flatMap edt), .slice a v.items.length c)]
def CopyI (v : V) : Prop := V.bulks v.items ≤ 1099511627776 → ∀ (h : Hp) (sl : Value), RdE h v.items sl →
  ACalls Tryz.prog 65 #[.agg #[.int .i64 v.kind, .int .i64 v.num, .string v.str, .int .i64 v.next, sl]] h (Made h v)
theorem copyValue_c : ∀ v, CopyI v := V.ind fun v ih hbk h sl rd => by
  have hlen := bulks_len' v.items
  obtain ⟨a, c, xs, rfl, hc, hr, hat⟩ := rd.rows (by decide) v.items.length (fm_len edt_len _)
  (refine enter Tryz.func65 rfl rfl (by kernel_rfl) [] ?_; simp only [go_sem, Nat.reduceBEq, Nat.reduceAdd, Nat.reduceLeDiff])
  refine aloop (ι := Nat × Value) (fun x => [(11, .val (.int .i64 (x.1 : Nat))), (10, .val (.int .i64 (v.items.length : Nat))), (9, .val (.slice a v.items.length c)), (3, .box 3 0), (2, .box 2 0)])
    (fun x => [(3, [.int .i64 v.kind, .int .i64 v.num, .string v.str, .int .i64 v.next, x.2]), (2, [.int .i64 0, .int .i64 0, .string ⟨#[]⟩, .int .i64 0, .slice none 0 0])])
    (fun x h' => x.1 ≤ v.items.length ∧ My h h' [(.row 8 ((v.items.take x.1).flatMap edt), x.2)]) (fun x => v.items.length - x.1) (0, .slice none 0 0)
    ⟨Nat.zero_le _, (My.nil (Ext.refl h)).nilrow⟩ (by repeat (first | exact wkF_e | refine wkF_c rfl ?_)) (wkB_c rfl (wkB_c rfl wkB_e)) rfl ?_
  rintro ⟨i, o⟩ h1 ⟨hi, m1⟩
  have hi : i ≤ v.items.length := hi
  have m1 : My h h1 [(.row 8 ((v.items.take i).flatMap edt), o)] := m1
  have htl : ((v.items.take i).flatMap edt).length = i * 8 := by rw [fm_len edt_len, List.length_take, Nat.min_eq_left hi]
  obtain ⟨ao, co, rfl, _⟩ := m1.row_shape (by decide) i htl
  simp only [go_sem, Nat.reduceBEq]
  refine Br.intro (fun hb => ?_) (fun hb => ?_) <;> (try simp only [hb, go_sem, Nat.reduceBEq, Nat.reduceAdd, Nat.reduceLeDiff])
  · have hb : i < v.items.length := by simpa using hb
    obtain ⟨b, off, rfl, hat'⟩ := hat (by omega)
    have hat1 := hat'.mono m1.ext
    have hr1 := hr.mono m1.ext
    obtain ⟨e, he, hm⟩ := get_lt hb
    have wsu := wrap_succ (i := i) (by omega)
    simp only [ix_nat hb, go_sem, Nat.reduceBEq]
    refine hsem_entry tyS141 hat1 hr1 he rfl fun s2 rd2 => ?_
    obtain ⟨a2, c2, _, rfl, _⟩ := rd2.rows (by decide) e.2.items.length (fm_len edt_len _)
    simp only [go_sem, Nat.reduceBEq, Nat.reduceAdd, Nat.reduceLeDiff]
    refine regionD_intro (lb := [16, 18, 20]) (by kernel_rfl) ?_
    simp only [go_sem, Nat.reduceBEq, Nat.reduceAdd, Nat.reduceLeDiff]
    refine (ih e hm (by have := bulks_mem' hm; omega) _ _ rd2).mono ?_
    rintro _ h2 ⟨a3, c3, rfl, m2⟩
    simp only [go_sem, Nat.reduceBEq, Nat.reduceAdd, Nat.reduceLeDiff]
    have m3 := (m1.add m2)
    refine hsem_my_lit (h0 := h) (es := edt e) (parts := [(0, .agg #[.bool e.1.text, .int .i64 e.1.num, .string e.1.str, .int .i64 e.2.kind, .int .i64 e.2.num, .string e.2.str, .int .i64 e.2.next, .slice a3 e.2.items.length c3])]) slT42 (by decide) (by decide) (by decide) rfl rfl (by simp [Value.cells]) (bag := [(.row 8 ((v.items.take i).flatMap edt), .slice ao i co)]) ?_ rfl (edt_len e) fun l4 h4 m4 => ?_
    · simp only [edt_eq, flat, List.flatMap_cons, List.flatMap_nil, List.append_nil, cells_agg, List.zip_cons_cons, List.zip_nil_right, List.cons_append, List.nil_append, My.raw_iff, one_bool, one_int, one_str, and_self, true_and]
      exact m3
    simp only [go_sem, Nat.reduceBEq]
    refine hsem_my_append slT42 (by decide) rfl i 1 m4.swap htl (edt_len e) (by show (i + 1) * 96 ≤ _; omega) (by omega) fun l5 h5 m5 => ?_
    have m5 : My h h5 [(.row 8 ((v.items.take i).flatMap edt ++ edt e), l5)] := m5
    have e5 : (v.items.take i).flatMap edt ++ edt e = (v.items.take (i + 1)).flatMap edt := by rw [take_snoc he, List.flatMap_append, List.flatMap_cons, List.flatMap_nil, List.append_nil]
    rw [e5] at m5
    obtain ⟨a6, c6, rfl, _⟩ := m5.row_shape (by decide) (i + 1) (by rw [fm_len edt_len, List.length_take, Nat.min_eq_left hb])
    simp only [wsu, go_sem, Nat.reduceBEq, Nat.reduceAdd, Nat.reduceLeDiff]
    exact Again.intro (i + 1, .slice a6 (i + 1) c6) (by first | omega | (simp only; omega)) ⟨hb, m5⟩ (by repeat (first | exact wkF_e | refine wkF_c rfl ?_)) (wkB_c rfl (wkB_c rfl wkB_e)) rfl
  · have hb : i = v.items.length := by simp at hb; omega
    subst hb
    rw [List.take_length] at m1
    try simp only [go_sem, Nat.reduceBEq, Nat.reduceAdd, Nat.reduceLeDiff, Nat.reduceEqDiff, Int.reduceEq, not_false_eq_true, Int.reduceToNat]
    exact ⟨_, _, rfl, m1⟩
def CopyS (v : V) : Prop := V.bulks v.items ≤ 1099511627776 → ∀ (h : Hp) (sl : Value), RdE h v.items sl →
  ACalls Tryz.prog 56 #[.agg #[.int .i64 v.kind, .int .i64 v.num, .string v.str, .int .i64 v.next, sl]] h (Made h v)
theorem l5Copy_c : ∀ v, CopyS v := V.ind fun v ih hbk h sl rd => by
  have hlen := bulks_len' v.items
  obtain ⟨a, c, xs, rfl, hc, hr, hat⟩ := rd.rows (by decide) v.items.length (fm_len edt_len _)
  (refine enter Tryz.func56 rfl rfl (by kernel_rfl) [] ?_; simp only [go_sem, Nat.reduceBEq, Nat.reduceAdd, Nat.reduceLeDiff])
  refine aloop (ι := Nat × Value) (fun x => [(4, .val (.int .i64 (x.1 : Nat))), (1, .box 1 0), (3, .box 3 0), (2, .box 2 0)])
    (fun x => [(3, [.int .i64 v.kind, .int .i64 v.num, .string v.str, .int .i64 v.next, x.2]), (1, [.int .i64 v.kind, .int .i64 v.num, .string v.str, .int .i64 v.next, .slice a v.items.length c]), (2, [.int .i64 0, .int .i64 0, .string ⟨#[]⟩, .int .i64 0, .slice none 0 0])])
    (fun x h' => x.1 ≤ v.items.length ∧ My h h' [(.row 8 ((v.items.take x.1).flatMap edt), x.2)]) (fun x => v.items.length - x.1) (0, .slice none 0 0)
    ⟨Nat.zero_le _, (My.nil (Ext.refl h)).nilrow⟩ (by repeat (first | exact wkF_e | refine wkF_c rfl ?_)) (wkB_c rfl (wkB_c rfl (wkB_c rfl wkB_e))) rfl ?_
  rintro ⟨i, o⟩ h1 ⟨hi, m1⟩
  have hi : i ≤ v.items.length := hi
  have m1 : My h h1 [(.row 8 ((v.items.take i).flatMap edt), o)] := m1
  have htl : ((v.items.take i).flatMap edt).length = i * 8 := by rw [fm_len edt_len, List.length_take, Nat.min_eq_left hi]
  obtain ⟨ao, co, rfl, _⟩ := m1.row_shape (by decide) i htl
  simp only [go_sem, Nat.reduceBEq]
  refine Br.intro (fun hb => ?_) (fun hb => ?_) <;> (try simp only [hb, go_sem, Nat.reduceBEq, Nat.reduceAdd, Nat.reduceLeDiff])
  · have hb : i < v.items.length := by simpa using hb
    obtain ⟨b, off, rfl, hat'⟩ := hat (by omega)
    have hat1 := hat'.mono m1.ext
    have hr1 := hr.mono m1.ext
    obtain ⟨e, he, hm⟩ := get_lt hb
    have wsu := wrap_succ (i := i) (by omega)
    refine regionD_still (lb := [15, 17, 23]) (pl := [21]) h m1.ext (by kernel_rfl) ?_
    simp only [ix_nat hb, go_sem, Nat.reduceBEq]
    refine hsem_ekey tyS40 hat' hr he rfl ?_
    simp only [ix_nat hb, go_sem, Nat.reduceBEq, Nat.reduceAdd]
    refine hsem_eval tyS44 hat1 hr1 he rfl fun s2 rd2 => ?_
    simp only [go_sem, Nat.reduceBEq]
    refine (ih e hm (by have := bulks_mem' hm; omega) _ _ rd2).mono ?_
    rintro _ h2 ⟨a3, c3, rfl, m2⟩
    simp only [go_sem, Nat.reduceBEq, Nat.reduceAdd, Nat.reduceLeDiff]
    refine ⟨m1.ext.trans m2.ext, ?_⟩
    have m3 := (m1.add m2)
    refine hsem_my_lit (h0 := h) (es := edt e) (parts := [(0, .agg #[.bool e.1.text, .int .i64 e.1.num, .string e.1.str, .int .i64 e.2.kind, .int .i64 e.2.num, .string e.2.str, .int .i64 e.2.next, .slice a3 e.2.items.length c3])]) slT42 (by decide) (by decide) (by decide) rfl rfl (by simp [Value.cells]) (bag := [(.row 8 ((v.items.take i).flatMap edt), .slice ao i co)]) ?_ rfl (edt_len e) fun l4 h4 m4 => ?_
    · simp only [edt_eq, flat, List.flatMap_cons, List.flatMap_nil, List.append_nil, cells_agg, List.zip_cons_cons, List.zip_nil_right, List.cons_append, List.nil_append, My.raw_iff, one_bool, one_int, one_str, and_self, true_and]
      exact m3
    simp only [go_sem, Nat.reduceBEq]
    refine ⟨m4.ext, ?_⟩
    refine hsem_my_append slT42 (by decide) rfl i 1 m4.swap htl (edt_len e) (by show (i + 1) * 96 ≤ _; omega) (by omega) fun l5 h5 m5 => ?_
    have m5 : My h h5 [(.row 8 ((v.items.take i).flatMap edt ++ edt e), l5)] := m5
    have e5 : (v.items.take i).flatMap edt ++ edt e = (v.items.take (i + 1)).flatMap edt := by rw [take_snoc he, List.flatMap_append, List.flatMap_cons, List.flatMap_nil, List.append_nil]
    rw [e5] at m5
    obtain ⟨a6, c6, rfl, _⟩ := m5.row_shape (by decide) (i + 1) (by rw [fm_len edt_len, List.length_take, Nat.min_eq_left hb])
    simp only [wsu, go_sem, Nat.reduceBEq, Nat.reduceAdd, Nat.reduceLeDiff]
    refine ⟨m5.ext, ?_⟩
    exact Again.intro (i + 1, .slice a6 (i + 1) c6) (by first | omega | (simp only; omega)) ⟨hb, m5⟩ (by repeat (first | exact wkF_e | refine wkF_c rfl ?_)) (wkB_c rfl (wkB_c rfl (wkB_c rfl wkB_e))) rfl
  · have hb : i = v.items.length := by simp at hb; omega
    subst hb
    rw [List.take_length] at m1
    try simp only [go_sem, Nat.reduceBEq, Nat.reduceAdd, Nat.reduceLeDiff, Nat.reduceEqDiff, Int.reduceEq, not_false_eq_true, Int.reduceToNat]
    exact ⟨_, _, rfl, m1⟩
end Go.Proofs.YtedfplodobpgfaaGreatDoor
namespace Go.Proofs.YtedfplodobpgfaaGreatDoor
set_option maxRecDepth 8000
open Go Go.Sx
def MadeT (h : Hp) (t : Tb) (u : Value) (h' : Hp) : Prop := ∃ a c a' c', u = .agg #[.bool t.hashed, .slice a t.heads.length c, .slice a' t.slots.length c', .int .i64 t.next, .int .i64 t.count] ∧ My h h' [(.row 1 (t.heads.flatMap idt), .slice a t.heads.length c), (.row 10 (t.slots.flatMap Sl.dt), .slice a' t.slots.length c')]
theorem slot_bulk {t : Tb} {e : Sl} (h : e ∈ t.slots) : V.bulks e.val.items ≤ t.bulk := by
  have h1 := szG_mem (w := Sl.bulk) h
  have h2 := V.bulk_eq e.val
  have e1 : Sl.bulk e = e.key.str.size + e.val.bulk := rfl
  unfold Tb.bulk
  omega
theorem copyTable_c (t : Tb) (hb : t.bulk ≤ 1099511627776) (s u : Value) (h : Hp) (r1 : RdI h t.heads s) (r2 : RdT h t.slots u) : ACalls Tryz.prog 60 #[.agg #[.bool t.hashed, s, u, .int .i64 t.next, .int .i64 t.count]] h (MadeT h t) := by
  obtain ⟨a1, c1, xs1, rfl, hc1, hr1, hat1⟩ := r1.rows (by decide) t.heads.length (fm_len idt_len _)
  obtain ⟨a2, c2, xs2, rfl, hc2, hr2, hat2⟩ := r2.rows (by decide) t.slots.length (fm_len Sl.dt_len _)
  have hlh : t.heads.length ≤ 1099511627776 := by unfold Tb.bulk at hb; omega
  have hls : t.slots.length ≤ 1099511627776 := by have := szG_len (w := Sl.bulk) t.slots; unfold Tb.bulk at hb; omega
  (refine enter Tryz.func60 rfl rfl (by kernel_rfl) [] ?_; simp only [go_sem, Nat.reduceBEq])
  refine regionD_intro (lb := [7, 10, 13, 15]) (by kernel_rfl) ?_
  simp only [go_sem, Nat.reduceBEq]
  refine hsem_my_lit0 slT22 (My.nil (Ext.refl h)) fun v1 h1 m1 => ?_
  obtain ⟨a0, c0, rfl, _⟩ := m1.row_shape (by decide) 0 rfl
  simp only [go_sem, Nat.reduceBEq]
  refine hsem_copyI slT22 m1 (r1.mono m1.ext) hlh fun v2 h2 m2 => ?_
  obtain ⟨a3, c3, rfl, _⟩ := m2.row_shape (by decide) t.heads.length (fm_len idt_len _)
  simp only [go_sem, Nat.reduceBEq, Nat.reduceAdd, Nat.reduceLeDiff]
  refine aloop (ι := Nat × Value) (fun x => [(20, .val (.int .i64 (x.1 : Nat))), (19, .val (.int .i64 (t.slots.length : Nat))), (18, .val (.slice a2 t.slots.length c2)), (3, .box 3 0), (2, .box 2 0)])
    (fun x => [(3, [.bool t.hashed, .slice a3 t.heads.length c3, x.2, .int .i64 t.next, .int .i64 t.count]), (2, [.bool false, .slice none 0 0, .slice none 0 0, .int .i64 0, .int .i64 0])])
    (fun x h' => x.1 ≤ t.slots.length ∧ My h h' [(.row 10 ((t.slots.take x.1).flatMap Sl.dt), x.2), (.row 1 (t.heads.flatMap idt), .slice a3 t.heads.length c3)]) (fun x => t.slots.length - x.1) (0, .slice none 0 0)
    ⟨Nat.zero_le _, m2.nilrow⟩ (by repeat (first | exact wkF_e | refine wkF_c rfl ?_)) (wkB_c rfl (wkB_c rfl wkB_e)) rfl ?_
  rintro ⟨i, o⟩ h1 ⟨hi, m1⟩
  have hi : i ≤ t.slots.length := hi
  have m1 : My h h1 [(.row 10 ((t.slots.take i).flatMap Sl.dt), o), (.row 1 (t.heads.flatMap idt), .slice a3 t.heads.length c3)] := m1
  have htl : ((t.slots.take i).flatMap Sl.dt).length = i * 10 := by rw [fm_len Sl.dt_len, List.length_take, Nat.min_eq_left hi]
  obtain ⟨ao, co, rfl, _⟩ := m1.row_shape (by decide) i htl
  simp only [go_sem, Nat.reduceBEq]
  refine Br.intro (fun hb => ?_) (fun hb => ?_) <;> (try simp only [hb, go_sem, Nat.reduceBEq, Nat.reduceAdd, Nat.reduceLeDiff])
  · have hb : i < t.slots.length := by simpa using hb
    obtain ⟨b, off, rfl, hat'⟩ := hat2 (by omega)
    have hat1 := hat'.mono m1.ext
    have hr1 := hr2.mono m1.ext
    obtain ⟨e, he, hm⟩ := get_lt hb
    have hbe := slot_bulk hm
    have wsu := wrap_succ (i := i) (by omega)
    simp only [ix_nat hb, go_sem, Nat.reduceBEq]
    refine hsem_slot tyS134 hat1 hr1 he rfl fun s2 rd2 => ?_
    obtain ⟨a5, c5, _, rfl, _⟩ := rd2.rows (by decide) e.val.items.length (fm_len edt_len _)
    simp only [go_sem, Nat.reduceBEq, Nat.reduceAdd, Nat.reduceLeDiff]
    refine (copyValue_c e.val (by omega) _ _ rd2).mono ?_
    rintro _ h2 ⟨a6, c6, rfl, m2⟩
    simp only [go_sem, Nat.reduceBEq, Nat.reduceAdd, Nat.reduceLeDiff]
    have m3 := m1.add m2
    refine hsem_my_lit (h0 := h) (es := Sl.dt e) (parts := [(0, .agg #[.bool e.key.text, .int .i64 e.key.num, .string e.key.str, .int .i64 e.val.kind, .int .i64 e.val.num, .string e.val.str, .int .i64 e.val.next, .slice a6 e.val.items.length c6, .bool e.live, .int .i64 e.link])]) slT34 (by decide) (by decide) (by decide) rfl rfl (by simp [Value.cells]) (bag := [(.row 10 ((t.slots.take i).flatMap Sl.dt), .slice ao i co), (.row 1 (t.heads.flatMap idt), .slice a3 t.heads.length c3)]) ?_ rfl (Sl.dt_len e) fun l4 h4 m4 => ?_
    · simp only [flat, List.flatMap_cons, List.flatMap_nil, List.append_nil, cells_agg]
      exact slot_zip e m3
    simp only [go_sem, Nat.reduceBEq]
    refine hsem_my_append slT34 (by decide) rfl i 1 m4.swap htl (Sl.dt_len e) (by show (i + 1) * 112 ≤ _; omega) (by omega) fun l5 h5 m5 => ?_
    have m5 : My h h5 [(.row 10 ((t.slots.take i).flatMap Sl.dt ++ Sl.dt e), l5), (.row 1 (t.heads.flatMap idt), .slice a3 t.heads.length c3)] := m5
    have e5 : (t.slots.take i).flatMap Sl.dt ++ Sl.dt e = (t.slots.take (i + 1)).flatMap Sl.dt := by rw [take_snoc he, List.flatMap_append, List.flatMap_cons, List.flatMap_nil, List.append_nil]
    rw [e5] at m5
    obtain ⟨a7, c7, rfl, _⟩ := m5.row_shape (by decide) (i + 1) (by rw [fm_len Sl.dt_len, List.length_take, Nat.min_eq_left hb])
    simp only [wsu, go_sem, Nat.reduceBEq, Nat.reduceAdd, Nat.reduceLeDiff]
    exact Again.intro (i + 1, .slice a7 (i + 1) c7) (by first | omega | (simp only; omega)) ⟨hb, m5⟩ (by repeat (first | exact wkF_e | refine wkF_c rfl ?_)) (wkB_c rfl (wkB_c rfl wkB_e)) rfl
  · have hb : i = t.slots.length := by simp at hb; omega
    subst hb
    rw [List.take_length] at m1
    try simp only [go_sem, Nat.reduceBEq, Nat.reduceAdd, Nat.reduceLeDiff, Nat.reduceEqDiff, Int.reduceEq, not_false_eq_true, Int.reduceToNat]
    exact ⟨_, _, _, _, rfl, m1.swap⟩
theorem l7Copy_c (t : Tb) (hb : t.bulk ≤ 1099511627776) (s u : Value) (h : Hp) (r1 : RdI h t.heads s) (r2 : RdT h t.slots u) : ACalls Tryz.prog 52 #[.agg #[.bool t.hashed, s, u, .int .i64 t.next, .int .i64 t.count]] h (MadeT h t) := by
  obtain ⟨a1, c1, xs1, rfl, hc1, hr1, hat1⟩ := r1.rows (by decide) t.heads.length (fm_len idt_len _)
  obtain ⟨a2, c2, xs2, rfl, hc2, hr2, hat2⟩ := r2.rows (by decide) t.slots.length (fm_len Sl.dt_len _)
  have hlh : t.heads.length ≤ 1099511627776 := by unfold Tb.bulk at hb; omega
  have hls : t.slots.length ≤ 1099511627776 := by have := szG_len (w := Sl.bulk) t.slots; unfold Tb.bulk at hb; omega
  (refine enter Tryz.func52 rfl rfl (by kernel_rfl) [] ?_; simp only [go_sem, Nat.reduceBEq, Nat.reduceAdd, Nat.reduceLeDiff])
  refine hsem_my_lit0 slT22 (My.nil (Ext.refl h)) fun v1 h1 m1 => ?_
  obtain ⟨a0, c0, rfl, _⟩ := m1.row_shape (by decide) 0 rfl
  simp only [go_sem, Nat.reduceBEq]
  refine hsem_copyI slT22 m1 (r1.mono m1.ext) hlh fun v2 h2 m2 => ?_
  obtain ⟨a3, c3, rfl, _⟩ := m2.row_shape (by decide) t.heads.length (fm_len idt_len _)
  simp only [go_sem, Nat.reduceBEq, Nat.reduceAdd, Nat.reduceLeDiff]
  refine hsem_my_lit0 slT34 m2 fun v3 h3 m3 => ?_
  obtain ⟨a4, c4, rfl, _⟩ := m3.row_shape (by decide) 0 rfl
  simp only [go_sem, Nat.reduceBEq, Nat.reduceAdd, Nat.reduceLeDiff]
  refine aloop (ι := Nat × Value) (fun x => [(4, .val (.int .i64 (x.1 : Nat))), (1, .box 1 0), (3, .box 3 0), (2, .box 2 0)])
    (fun x => [(3, [.bool t.hashed, .slice a3 t.heads.length c3, x.2, .int .i64 t.next, .int .i64 t.count]), (1, [.bool t.hashed, .slice a1 t.heads.length c1, .slice a2 t.slots.length c2, .int .i64 t.next, .int .i64 t.count]), (2, [.bool false, .slice none 0 0, .slice none 0 0, .int .i64 0, .int .i64 0])])
    (fun x h' => x.1 ≤ t.slots.length ∧ My h h' [(.row 10 ((t.slots.take x.1).flatMap Sl.dt), x.2), (.row 1 (t.heads.flatMap idt), .slice a3 t.heads.length c3)]) (fun x => t.slots.length - x.1) (0, .slice a4 0 c4)
    ⟨Nat.zero_le _, m3⟩ (by repeat (first | exact wkF_e | refine wkF_c rfl ?_)) (wkB_c rfl (wkB_c rfl (wkB_c rfl wkB_e))) rfl ?_
  rintro ⟨i, o⟩ h1 ⟨hi, m1⟩
  have hi : i ≤ t.slots.length := hi
  have m1 : My h h1 [(.row 10 ((t.slots.take i).flatMap Sl.dt), o), (.row 1 (t.heads.flatMap idt), .slice a3 t.heads.length c3)] := m1
  have htl : ((t.slots.take i).flatMap Sl.dt).length = i * 10 := by rw [fm_len Sl.dt_len, List.length_take, Nat.min_eq_left hi]
  obtain ⟨ao, co, rfl, _⟩ := m1.row_shape (by decide) i htl
  simp only [go_sem, Nat.reduceBEq]
  refine Br.intro (fun hb => ?_) (fun hb => ?_) <;> (try simp only [hb, go_sem, Nat.reduceBEq, Nat.reduceAdd, Nat.reduceLeDiff])
  · have hb : i < t.slots.length := by simpa using hb
    obtain ⟨b, off, rfl, hat'⟩ := hat2 (by omega)
    have hat1 := hat'.mono m1.ext
    have hr1 := hr2.mono m1.ext
    obtain ⟨e, he, hm⟩ := get_lt hb
    have hbe := slot_bulk hm
    have wsu := wrap_succ (i := i) (by omega)
    simp only [ix_nat hb, go_sem, Nat.reduceBEq]
    refine hsem_slot tyS134 hat1 hr1 he rfl fun s2 rd2 => ?_
    obtain ⟨a5, c5, _, rfl, _⟩ := rd2.rows (by decide) e.val.items.length (fm_len edt_len _)
    simp only [go_sem, Nat.reduceBEq, Nat.reduceAdd, Nat.reduceLeDiff]
    refine (l5Copy_c e.val (by omega) _ _ rd2).mono ?_
    rintro _ h2 ⟨a6, c6, rfl, m2⟩
    simp only [go_sem, Nat.reduceBEq, Nat.reduceAdd, Nat.reduceLeDiff]
    have m3 := m1.add m2
    refine hsem_my_lit (h0 := h) (es := Sl.dt e) (parts := [(0, .agg #[.bool e.key.text, .int .i64 e.key.num, .string e.key.str, .int .i64 e.val.kind, .int .i64 e.val.num, .string e.val.str, .int .i64 e.val.next, .slice a6 e.val.items.length c6, .bool e.live, .int .i64 e.link])]) slT34 (by decide) (by decide) (by decide) rfl rfl (by simp [Value.cells]) (bag := [(.row 10 ((t.slots.take i).flatMap Sl.dt), .slice ao i co), (.row 1 (t.heads.flatMap idt), .slice a3 t.heads.length c3)]) ?_ rfl (Sl.dt_len e) fun l4 h4 m4 => ?_
    · simp only [flat, List.flatMap_cons, List.flatMap_nil, List.append_nil, cells_agg]
      exact slot_zip e m3
    simp only [go_sem, Nat.reduceBEq]
    refine hsem_my_append slT34 (by decide) rfl i 1 m4.swap htl (Sl.dt_len e) (by show (i + 1) * 112 ≤ _; omega) (by omega) fun l5 h5 m5 => ?_
    have m5 : My h h5 [(.row 10 ((t.slots.take i).flatMap Sl.dt ++ Sl.dt e), l5), (.row 1 (t.heads.flatMap idt), .slice a3 t.heads.length c3)] := m5
    have e5 : (t.slots.take i).flatMap Sl.dt ++ Sl.dt e = (t.slots.take (i + 1)).flatMap Sl.dt := by rw [take_snoc he, List.flatMap_append, List.flatMap_cons, List.flatMap_nil, List.append_nil]
    rw [e5] at m5
    obtain ⟨a7, c7, rfl, _⟩ := m5.row_shape (by decide) (i + 1) (by rw [fm_len Sl.dt_len, List.length_take, Nat.min_eq_left hb])
    simp only [wsu, go_sem, Nat.reduceBEq, Nat.reduceAdd, Nat.reduceLeDiff]
    exact Again.intro (i + 1, .slice a7 (i + 1) c7) (by first | omega | (simp only; omega)) ⟨hb, m5⟩ (by repeat (first | exact wkF_e | refine wkF_c rfl ?_)) (wkB_c rfl (wkB_c rfl (wkB_c rfl wkB_e))) rfl
  · have hb : i = t.slots.length := by simp at hb; omega
    subst hb
    rw [List.take_length] at m1
    try simp only [go_sem, Nat.reduceBEq, Nat.reduceAdd, Nat.reduceLeDiff, Nat.reduceEqDiff, Int.reduceEq, not_false_eq_true, Int.reduceToNat]
    exact ⟨_, _, _, _, rfl, m1.swap⟩
theorem iZero (v : V) (sl : Value) (h : Hp) (rd : RdE h v.items sl) : ACalls Tryz.prog 120 #[.agg #[.int .i64 v.kind, .int .i64 v.num, .string v.str, .int .i64 v.next, sl]] h (Pu (.bool v.isZero) h) := by
  obtain ⟨a, c, _, rfl, _⟩ := rd.rows (by decide) v.items.length (fm_len edt_len _)
  (refine enter Tryz.func120 rfl rfl (by kernel_rfl) [] ?_; simp only [go_sem, Nat.reduceBEq])
  unfold V.isZero
  by_cases h1 : v.kind = 0
  case neg => simp only [decide_eq_false h1, Bool.false_and, go_sem, Nat.reduceBEq]; exact ⟨rfl, rfl⟩
  by_cases h2 : v.num = 0
  case neg => simp only [decide_eq_true h1, decide_eq_false h2, Bool.false_and, Bool.true_and, go_sem, Nat.reduceBEq]; exact ⟨rfl, rfl⟩
  by_cases h3 : v.str = ⟨#[]⟩
  case neg => simp only [decide_eq_true h1, decide_eq_true h2, decide_eq_false h3, Bool.false_and, Bool.true_and, go_sem, Nat.reduceBEq]; exact ⟨rfl, rfl⟩
  by_cases h4 : v.next = 0
  case neg => simp only [decide_eq_true h1, decide_eq_true h2, decide_eq_true h3, decide_eq_false h4, Bool.false_and, Bool.true_and, go_sem, Nat.reduceBEq]; exact ⟨rfl, rfl⟩
  simp only [decide_eq_true h1, decide_eq_true h2, decide_eq_true h3, decide_eq_true h4, Bool.true_and, go_sem, Nat.reduceBEq]
  exact ⟨by rw [show decide (((v.items.length : Nat) : Int) = 0) = decide (v.items.length = 0) from decide_eq_decide.2 (by omega)], rfl⟩
theorem sZero (v : V) (sl : Value) (h : Hp) (rd : RdE h v.items sl) : ACalls Tryz.prog 112 #[.agg #[.int .i64 v.kind, .int .i64 v.num, .string v.str, .int .i64 v.next, sl]] h (Pu (.bool v.isZero) h) := by
  obtain ⟨a, c, _, rfl, _⟩ := rd.rows (by decide) v.items.length (fm_len edt_len _)
  (refine enter Tryz.func112 rfl rfl (by kernel_rfl) [] ?_; simp only [go_sem, Nat.reduceBEq])
  unfold V.isZero
  by_cases h1 : v.kind = 0
  case neg => simp only [decide_eq_false h1, Bool.false_and, go_sem, Nat.reduceBEq]; exact ⟨rfl, rfl⟩
  by_cases h2 : v.num = 0
  case neg => simp only [decide_eq_true h1, decide_eq_false h2, Bool.false_and, Bool.true_and, go_sem, Nat.reduceBEq]; exact ⟨rfl, rfl⟩
  by_cases h3 : v.str = ⟨#[]⟩
  case neg => simp only [decide_eq_true h1, decide_eq_true h2, decide_eq_false h3, Bool.false_and, Bool.true_and, go_sem, Nat.reduceBEq]; exact ⟨rfl, rfl⟩
  by_cases h4 : v.next = 0
  case neg => simp only [decide_eq_true h1, decide_eq_true h2, decide_eq_true h3, decide_eq_false h4, Bool.false_and, Bool.true_and, go_sem, Nat.reduceBEq]; exact ⟨rfl, rfl⟩
  simp only [decide_eq_true h1, decide_eq_true h2, decide_eq_true h3, decide_eq_true h4, Bool.true_and, go_sem, Nat.reduceBEq]
  exact ⟨by rw [show decide (((v.items.length : Nat) : Int) = 0) = decide (v.items.length = 0) from decide_eq_decide.2 (by omega)], rfl⟩
theorem iIntKey (n : Int) (h : Hp) : ACalls Tryz.prog 122 #[.int .i64 n] h (Pu (.agg #[.bool false, .int .i64 n, .string ⟨#[]⟩]) h) := by
  (refine enter Tryz.func122 rfl rfl (by kernel_rfl) [] ?_; simp only [go_sem, Nat.reduceBEq, Nat.reduceAdd, Nat.reduceLeDiff])
  exact ⟨rfl, rfl⟩
theorem noHeads_c (n : Nat) (hn : n ≤ 1048576) (h : Hp) : ACalls Tryz.prog 123 #[.int .i64 (n : Nat)] h (fun u h' => ∃ a c, u = .slice a n c ∧ My h h' [(.row 1 ((List.replicate n (-1)).flatMap idt), .slice a n c)]) := by
  (refine enter Tryz.func123 rfl rfl (by kernel_rfl) [] ?_; simp only [go_sem, Nat.reduceBEq])
  refine hsem_my_make slT22 (by decide) rfl rfl hn (by decide) (My.nil (Ext.refl h)) fun bo h1 m1 => ?_
  simp only [go_sem, Nat.reduceBEq]
  generalize hzz : SlT.zero _ = zz at m1
  refine aloop (ι := Nat) (fun i => [(9, .val (.int .i64 (i : Nat))), (8, .val (.int .i64 (n : Nat))), (3, .val (.slice (some ⟨bo, 0, none⟩) n n))]) (fun _ => []) (fun i h' => i ≤ n ∧ My h h' [(.row 1 ((List.replicate i (-1)).flatMap idt ++ zeros zz (n - i)), .slice (some ⟨bo, 0, none⟩) n n)]) (fun i => n - i) 0
    ⟨Nat.zero_le _, m1⟩ (by repeat (first | exact wkF_e | refine wkF_c rfl ?_)) wkB_e rfl ?_
  rintro i h2 ⟨hi, m2⟩
  have hi : i ≤ n := hi
  have m2 : My h h2 [(.row 1 ((List.replicate i (-1)).flatMap idt ++ zeros zz (n - i)), .slice (some ⟨bo, 0, none⟩) n n)] := m2
  simp only [go_sem, Nat.reduceBEq]
  refine Br.intro (fun hb => ?_) (fun hb => ?_) <;> (try simp only [hb, go_sem, Nat.reduceBEq])
  · have hb : i < n := by simpa using hb
    have wsu := wrap_succ (i := i) (by omega)
    simp only [ix_nat hb, go_sem, Nat.reduceBEq]
    rw [zeros_sub zz hb] at m2
    have m3 : My h h2 ((.raw (.int .i64 (-1)), .int .i64 (-1)) :: [(.row 1 ((List.replicate i (-1)).flatMap idt ++ (zz.map .raw ++ zeros zz (n - (i + 1)))), .slice (some ⟨bo, 0, none⟩) n n)]) := m2.raw rfl
    refine hsem_my_put (es := idt (-1)) tyS3 m3 (by omega) (by rw [List.length_map, ← hzz]; rfl) rfl rfl ?_ fun h4 m4 => ?_
    · rw [fm_len idt_len, List.length_replicate]
    simp only [wsu, go_sem, Nat.reduceBEq]
    refine Again.intro (i + 1) (by first | omega | (simp only; omega)) ⟨hb, ?_⟩ (by repeat (first | exact wkF_e | refine wkF_c rfl ?_)) wkB_e rfl
    rw [List.replicate_succ', List.flatMap_append, List.flatMap_cons, List.flatMap_nil, List.append_nil, List.append_assoc]
    exact m4
  · have hb : i = n := by simp at hb; omega
    subst hb
    rw [Nat.sub_self] at m2
    try simp only [go_sem, Nat.reduceBEq, Nat.reduceAdd, Nat.reduceLeDiff, Nat.reduceEqDiff, Int.reduceEq, not_false_eq_true, Int.reduceToNat]
    exact ⟨_, _, rfl, by simpa [zeros] using m2⟩
end Go.Proofs.YtedfplodobpgfaaGreatDoor
namespace Go.Proofs.YtedfplodobpgfaaGreatDoor
set_option maxRecDepth 8000
open Go Go.Sx
theorem tmod_neg {n m : Int} (h0 : 1 ≤ m) : (n.tmod m < 0 → n.tmod m + m = n % m) ∧ (¬ n.tmod m < 0 → n.tmod m = n % m) ∧ -m < n.tmod m ∧ n.tmod m < m := by
  have h1 := Int.emod_nonneg n (show m ≠ 0 by omega)
  have h2 := Int.emod_lt_of_pos n (show 0 < m by omega)
  have h3 := Int.tmod_eq_emod (a := n) (b := m)
  by_cases h : 0 ≤ n ∨ m ∣ n
  · rw [if_pos h] at h3
    omega
  · rw [if_neg h] at h3
    have : ((m.natAbs : Nat) : Int) = m := by omega
    omega
theorem iMod (n m : Int) (h0 : 1 ≤ m) (h1 : m ≤ 1000000000000) (h : Hp) : ACalls Tryz.prog 124 #[.int .i64 n, .int .i64 m] h (Pu (.int .i64 (n % m)) h) := by
  obtain ⟨t1, t2, t3, t4⟩ := tmod_neg (n := n) h0
  have d1 : decide (m < 1) = false := decide_eq_false (by omega)
  have d2 : decide ((1000000000000 : Int) < m) = false := decide_eq_false (by omega)
  have hm0 : (m = 0) = False := eq_false (by omega)
  (refine enter Tryz.func124 rfl rfl (by kernel_rfl) [] ?_; simp only [go_sem, Nat.reduceBEq])
  simp only [d1, d2, hm0, if_false, go_sem, Nat.reduceBEq]
  refine Br.intro (fun hb => ?_) (fun hb => ?_) <;> (try simp only [hb, go_sem, Nat.reduceBEq])
  · have hb := of_decide_eq_true hb
    have w : IntKind.i64.wrap (n.tmod m + m) = n % m := by rw [IntWalk.i64_in _ (by omega)]; exact t1 hb
    try simp only [w, go_sem]
    exact ⟨by first | rfl | rw [w], rfl⟩
  · have hb := of_decide_eq_false hb
    exact ⟨by rw [t2 hb], rfl⟩
theorem sMod (n m : Int) (h0 : 1 ≤ m) (h1 : m ≤ 1000000000000) (h : Hp) : ACalls Tryz.prog 155 #[.int .i64 n, .int .i64 m] h (Pu (.int .i64 (n % m)) h) := by
  obtain ⟨t1, t2, t3, t4⟩ := tmod_neg (n := n) h0
  have d1 : decide (1 ≤ m ∧ m ≤ 1000000000000) = true := decide_eq_true (by omega)
  have hm0 : (m = 0) = False := eq_false (by omega)
  have w : IntKind.i64.wrap (n.tmod m + m) = n.tmod m + m := IntWalk.i64_in _ (by omega)
  have w2 : (n.tmod m + m).tmod m = n % m := by
    rw [Int.tmod_eq_emod_of_nonneg (by omega), Int.add_emod_right]
    by_cases hb : n.tmod m < 0
    · have := t1 hb
      rw [show n.tmod m = n % m - m by omega, Int.sub_emod_right, Int.emod_emod_of_dvd _ (Int.dvd_refl m)]
    · rw [t2 hb, Int.emod_emod_of_dvd _ (Int.dvd_refl m)]
  (refine enter Tryz.func155 rfl rfl (by kernel_rfl) [] ?_; simp only [go_sem, Nat.reduceBEq])
  (refine (l1In_c _ _ _ _).mono ?_; rintro _ _ ⟨rfl, rfl⟩; simp only [go_sem, Nat.reduceBEq])
  simp only [d1, hm0, if_false, Bool.not_true, w, w2, go_sem, Nat.reduceBEq]
  exact ⟨rfl, rfl⟩

theorem iHashText (s : ByteArray) (hs : s.size ≤ 1152921504606846976) (h : Hp) : ACalls Tryz.prog 158 #[.string s] h (Pu (.int .i64 (hashT s : Nat)) h) := by
  have hsz := size_list s
  (refine enter Tryz.func158 rfl rfl (by kernel_rfl) [] ?_; simp only [go_sem])
  refine aloop (ι := Nat) (fun i => [(4, .val (.int .i64 (i : Nat))), (3, .val (.int .i64 (((s.data.toList.take i).foldl hstep 11 : Nat)))), (0, .val (.string s))]) (fun _ => []) (fun i h' => i ≤ s.size ∧ h' = h) (fun i => s.size - i) 0 ⟨Nat.zero_le _, rfl⟩ (by repeat (first | exact wkF_e | refine wkF_c rfl ?_)) wkB_e rfl ?_
  rintro i _ ⟨hi, rfl⟩
  simp only [go_sem, Nat.reduceBEq]
  refine Br.intro (fun hb => ?_) (fun hb => ?_) <;> (try simp only [hb, go_sem, Nat.reduceBEq])
  · have hb : i < s.size := by simpa using hb
    obtain ⟨c, hc⟩ : ∃ c, s.data.toList[i]? = some c := ⟨_, List.getElem?_eq_getElem (by omega)⟩
    have wsu := wrap_succ (i := i) (by omega)
    have hd := hfold_lt (s.data.toList.take i) 11 (by omega)
    have hc8 := c.toNat_lt
    have wch : IntKind.i64.wrap (c.toNat : Int) = (c.toNat : Int) := IntWalk.i64_in _ (by omega)
    have e := hfold_snoc hc
    generalize (s.data.toList.take i).foldl hstep 11 = d at *
    obtain ⟨x1, hx1⟩ : ∃ x : Int, x = (d : Int) * 1000003 := ⟨_, rfl⟩
    obtain ⟨x2, hx2⟩ : ∃ x : Int, x = x1 + (c.toNat : Int) := ⟨_, rfl⟩
    obtain ⟨x3, hx3⟩ : ∃ x : Int, x = x2 + 13 := ⟨_, rfl⟩
    obtain ⟨d', hd'⟩ : ∃ x : Nat, x = hstep d c := ⟨_, rfl⟩
    have w1 : IntKind.i64.wrap ((d : Int) * 1000003) = x1 := by rw [hx1, IntWalk.i64_in _ (by omega)]
    have w2 : IntKind.i64.wrap (x1 + (c.toNat : Int)) = x2 := by rw [hx2, IntWalk.i64_in _ (by omega)]
    have w3 : IntKind.i64.wrap (x2 + 13) = x3 := by rw [hx3, IntWalk.i64_in _ (by omega)]
    have w4 : x3.tmod 2147483647 = ((d' : Nat) : Int) := by
      rw [Int.tmod_eq_emod_of_nonneg (by omega), hd']
      unfold hstep
      omega
    rw [← hd'] at e
    clear hd'
    simp only [sidx_at hc, wch, w1, w2, w3, w4, wsu, go_sem, Nat.reduceBEq, Int.reduceEq, not_false_eq_true]
    exact Again.intro (i + 1) (by first | omega | (simp only; omega)) ⟨hb, rfl⟩ (by simp only [e]; exact (by repeat (first | exact wkF_e | refine wkF_c rfl ?_))) wkB_e rfl
  · have hb : i = s.size := by simp at hb; omega
    subst hb
    refine ⟨?_, rfl⟩
    rw [List.take_of_length_le (by omega)]
    rfl
theorem iKeyHash (k : Ky) (hs : k.str.size ≤ 1152921504606846976) (h : Hp) : ACalls Tryz.prog 125 #[.agg #[.bool k.text, .int .i64 k.num, .string k.str]] h (Pu (.int .i64 (k.hash : Nat)) h) := by
  (refine enter Tryz.func125 rfl rfl (by kernel_rfl) [] ?_; simp only [go_sem, Nat.reduceBEq])
  cases ht : k.text with
  | true =>
    have e : k.hash = hashT k.str := by unfold Ky.hash; rw [ht]; rfl
    rw [e]
    simp only [go_sem, Nat.reduceBEq]
    (refine (iHashText k.str hs _).mono ?_; rintro _ _ ⟨rfl, rfl⟩; simp only [go_sem, Nat.reduceBEq])
    exact ⟨rfl, rfl⟩
  | false =>
    have e : ((k.hash : Nat) : Int) = k.num % 2147483647 := by
      unfold Ky.hash
      rw [ht]
      show (((k.num % 2147483647).toNat : Nat) : Int) = _
      omega
    rw [e]
    simp only [go_sem, Nat.reduceBEq]
    (refine (iMod k.num 2147483647 (by omega) (by omega) _).mono ?_; rintro _ _ ⟨rfl, rfl⟩; simp only [go_sem, Nat.reduceBEq])
    exact ⟨rfl, rfl⟩
theorem sHashText (s : ByteArray) (hs : s.size ≤ 1152921504606846976) (h : Hp) : ACalls Tryz.prog 154 #[.string s] h (Pu (.int .i64 (hashT s : Nat)) h) := by
  have hsz := size_list s
  (refine enter Tryz.func154 rfl rfl (by kernel_rfl) [] ?_; simp only [go_sem])
  refine aloop (ι := Nat) (fun i => [(4, .val (.int .i64 (i : Nat))), (3, .val (.int .i64 (((s.data.toList.take i).foldl hstep 11 : Nat)))), (0, .val (.string s))]) (fun _ => []) (fun i h' => i ≤ s.size ∧ h' = h) (fun i => s.size - i) 0 ⟨Nat.zero_le _, rfl⟩ (by repeat (first | exact wkF_e | refine wkF_c rfl ?_)) wkB_e rfl ?_
  rintro i _ ⟨hi, rfl⟩
  simp only [go_sem, Nat.reduceBEq]
  refine Br.intro (fun hb => ?_) (fun hb => ?_) <;> (try simp only [hb, go_sem, Nat.reduceBEq])
  · have hb : i < s.size := by simpa using hb
    obtain ⟨c, hc⟩ : ∃ c, s.data.toList[i]? = some c := ⟨_, List.getElem?_eq_getElem (by omega)⟩
    have wsu := wrap_succ (i := i) (by omega)
    have hd := hfold_lt (s.data.toList.take i) 11 (by omega)
    have hc8 := c.toNat_lt
    have wch : IntKind.i64.wrap (c.toNat : Int) = (c.toNat : Int) := IntWalk.i64_in _ (by omega)
    have e := hfold_snoc hc
    generalize (s.data.toList.take i).foldl hstep 11 = d at *
    obtain ⟨x1, hx1⟩ : ∃ x : Int, x = (d : Int) * 1000003 := ⟨_, rfl⟩
    obtain ⟨x2, hx2⟩ : ∃ x : Int, x = x1 + (c.toNat : Int) := ⟨_, rfl⟩
    obtain ⟨x3, hx3⟩ : ∃ x : Int, x = x2 + 13 := ⟨_, rfl⟩
    obtain ⟨d', hd'⟩ : ∃ x : Nat, x = hstep d c := ⟨_, rfl⟩
    have w1 : IntKind.i64.wrap ((d : Int) * 1000003) = x1 := by rw [hx1, IntWalk.i64_in _ (by omega)]
    have w2 : IntKind.i64.wrap (x1 + (c.toNat : Int)) = x2 := by rw [hx2, IntWalk.i64_in _ (by omega)]
    have w3 : IntKind.i64.wrap (x2 + 13) = x3 := by rw [hx3, IntWalk.i64_in _ (by omega)]
    have w4 : x3.tmod 2147483647 = ((d' : Nat) : Int) := by
      rw [Int.tmod_eq_emod_of_nonneg (by omega), hd']
      unfold hstep
      omega
    rw [← hd'] at e
    clear hd'
    simp only [sidx_at hc, wch, w1, w2, w3, w4, wsu, go_sem, Nat.reduceBEq, Int.reduceEq, not_false_eq_true]
    exact Again.intro (i + 1) (by first | omega | (simp only; omega)) ⟨hb, rfl⟩ (by simp only [e]; exact (by repeat (first | exact wkF_e | refine wkF_c rfl ?_))) wkB_e rfl
  · have hb : i = s.size := by simp at hb; omega
    subst hb
    refine ⟨?_, rfl⟩
    rw [List.take_of_length_le (by omega)]
    rfl
theorem sKeyHash (k : Ky) (hs : k.str.size ≤ 1152921504606846976) (h : Hp) : ACalls Tryz.prog 111 #[.agg #[.bool k.text, .int .i64 k.num, .string k.str]] h (Pu (.int .i64 (k.hash : Nat)) h) := by
  (refine enter Tryz.func111 rfl rfl (by kernel_rfl) [] ?_; simp only [go_sem, Nat.reduceBEq])
  cases ht : k.text with
  | true =>
    have e : k.hash = hashT k.str := by unfold Ky.hash; rw [ht]; rfl
    rw [e]
    simp only [go_sem, Nat.reduceBEq]
    (refine (sHashText k.str hs _).mono ?_; rintro _ _ ⟨rfl, rfl⟩; simp only [go_sem, Nat.reduceBEq])
    exact ⟨rfl, rfl⟩
  | false =>
    have e : ((k.hash : Nat) : Int) = k.num % 2147483647 := by
      unfold Ky.hash
      rw [ht]
      show (((k.num % 2147483647).toNat : Nat) : Int) = _
      omega
    rw [e]
    simp only [go_sem, Nat.reduceBEq]
    (refine (sMod k.num 2147483647 (by omega) (by omega) _).mono ?_; rintro _ _ ⟨rfl, rfl⟩; simp only [go_sem, Nat.reduceBEq])
    exact ⟨rfl, rfl⟩
theorem find_packed {t : Tb} {k : Ky} (h : t.hashed = false) : t.find k = if k.text = false ∧ k.str = ⟨#[]⟩ ∧ 0 ≤ k.num ∧ ((t.slots[k.num.toNat]?).map (·.live)).getD false = true then some k.num.toNat else none := by
  unfold Tb.find
  rw [h]
  rfl
theorem find_hashed {t : Tb} {k : Ky} (h : t.hashed = true) : t.find k = chain t.slots k (t.heads.getD (k.hash % t.heads.length) (-1)) := by
  unfold Tb.find
  rw [h]
  rfl
theorem find_no {t : Tb} {k : Ky} (h : t.hashed = false) (hn : ¬ (k.text = false ∧ k.str = ⟨#[]⟩ ∧ 0 ≤ k.num ∧ ((t.slots[k.num.toNat]?).map (·.live)).getD false = true)) : t.find k = none := by
  rw [find_packed h, if_neg hn]
theorem find_yes {t : Tb} {k : Ky} {s : Sl} (h : t.hashed = false) (h1 : k.text = false) (h2 : k.str = ⟨#[]⟩) (h3 : 0 ≤ k.num) (hs : t.slots[k.num.toNat]? = some s) (hl : s.live = true) : t.find k = some k.num.toNat := by
  rw [find_packed h, if_pos ⟨h1, h2, h3, by rw [hs]; simpa using hl⟩]
theorem iFind (t : Tb) (k : Ky) (c : t.ch) (hk : k.str.size ≤ 1152921504606846976) (s u : Value) (h : Hp) (r1 : RdI h t.heads s) (r2 : RdT h t.slots u) : ACalls Tryz.prog 63 #[.agg #[.bool t.hashed, s, u, .int .i64 t.next, .int .i64 t.count], .agg #[.bool k.text, .int .i64 k.num, .string k.str]] h (Pu (.int .i64 (ixI (t.find k))) h) := by
  obtain ⟨a1, c1, xs1, rfl, hc1, hr1, hat1⟩ := r1.rows (by decide) t.heads.length (fm_len idt_len _)
  obtain ⟨a2, c2, xs2, rfl, hc2, hr2, hat2⟩ := r2.rows (by decide) t.slots.length (fm_len Sl.dt_len _)
  have hlen := c.len
  (refine enter Tryz.func63 rfl rfl (by kernel_rfl) [] ?_; simp only [go_sem, Nat.reduceBEq])
  cases ht : t.hashed with
  | false =>
    cases kt : k.text with
    | true =>
      simp only [go_sem, Nat.reduceBEq]
      exact ⟨by rw [find_no ht (by rw [kt]; simp)]; rfl, rfl⟩
    | false =>
    by_cases ks : k.str = ⟨#[]⟩
    case neg =>
      simp only [decide_eq_false ks, Bool.not_false, go_sem, Nat.reduceBEq]
      exact ⟨by rw [find_no ht (by simp [ks])]; rfl, rfl⟩
    by_cases k0 : k.num < 0
    case pos =>
      simp only [decide_eq_true ks, Bool.not_true, decide_eq_true k0, go_sem, Nat.reduceBEq]
      exact ⟨by rw [find_no ht (by intro q; omega)]; rfl, rfl⟩
    by_cases k1 : (t.slots.length : Int) ≤ k.num
    case pos =>
      simp only [decide_eq_true ks, Bool.not_true, decide_eq_false k0, decide_eq_true k1, go_sem, Nat.reduceBEq]
      refine ⟨?_, rfl⟩
      rw [find_no ht ?_]
      · rfl
      · rintro ⟨_, _, _, q⟩
        rw [List.getElem?_eq_none (by omega)] at q
        simp at q
    obtain ⟨n, hkn⟩ : ∃ n : Nat, k.num = n := ⟨k.num.toNat, by omega⟩
    have hn : n < t.slots.length := by omega
    obtain ⟨b2, o2, rfl, hat2'⟩ := hat2 (by omega)
    obtain ⟨e, he, _⟩ := get_lt hn
    have he' : t.slots[k.num.toNat]? = some e := by rw [hkn]; exact he
    rw [hkn] at k0 k1
    simp only [decide_eq_true ks, Bool.not_true, hkn, decide_eq_false k0, decide_eq_false k1, ix_nat hn, go_sem, Nat.reduceBEq, Nat.reduceAdd]
    refine hsem_slive tyS4 hat2' hr2 he rfl ?_
    cases hlv : e.live with
    | false =>
      simp only [go_sem, Nat.reduceBEq]
      refine ⟨?_, rfl⟩
      rw [find_no ht ?_]
      · rfl
      · rintro ⟨_, _, _, q⟩
        rw [he'] at q
        simp [hlv] at q
    | true =>
      simp only [go_sem, Nat.reduceBEq]
      refine ⟨?_, rfl⟩
      rw [find_yes ht kt ks (by omega) he' hlv, hkn]
      rfl
  | true =>
  have hsz := c.size ht
  have hm : k.hash % t.heads.length < t.heads.length := Nat.mod_lt _ (by omega)
  have hx := c.heads ht _ (getD_mem (d := -1) hm)
  have hh := k.hash_lt
  obtain ⟨b1, o1, rfl, hat1'⟩ := hat1 (by omega)
  have em : ((k.hash : Nat) : Int) % ((t.heads.length : Nat) : Int) = ((k.hash % t.heads.length : Nat) : Int) := by omega
  simp only [go_sem]
  refine regionD_intro (lb := [42, 43, 46]) (by kernel_rfl) ?_
  simp only [go_sem, Nat.reduceBEq, Nat.reduceAdd, Nat.reduceLeDiff]
  (refine (iKeyHash k hk _).mono ?_; rintro _ _ ⟨rfl, rfl⟩; simp only [go_sem, Nat.reduceBEq])
  (refine (iMod _ _ (by omega) (by omega) _).mono ?_; rintro _ _ ⟨rfl, rfl⟩; simp only [go_sem, Nat.reduceBEq])
  rw [em]
  simp only [ix_nat hm, go_sem, Nat.reduceBEq]
  refine hsem_num tyS3 hat1' hr1 (getD_at (d := -1) hm) rfl ?_
  simp only [go_sem, Nat.reduceBEq]
  refine aloop (ι := Int) (fun i => [(5, .val (.int .i64 i)), (2, .box 2 0), (3, .box 3 0)]) (fun _ => [(2, [.bool true, .slice (some ⟨b1, o1, none⟩) t.heads.length c1, .slice a2 t.slots.length c2, .int .i64 t.next, .int .i64 t.count]), (3, [.bool k.text, .int .i64 k.num, .string k.str])])
    (fun i h' => -1 ≤ i ∧ i < t.slots.length ∧ chain t.slots k i = t.find k ∧ h = h') (fun i => (i + 1).toNat) (t.heads.getD (k.hash % t.heads.length) (-1)) ⟨hx.1, hx.2, by rw [find_hashed ht], rfl⟩ (by repeat (first | exact wkF_e | refine wkF_c rfl ?_)) (wkB_c rfl (wkB_c rfl wkB_e)) rfl ?_
  rintro i _ ⟨hi0, hi1, hq, rfl⟩
  have hi0 : -1 ≤ i := hi0
  have hi1 : i < t.slots.length := hi1
  have hq : chain t.slots k i = t.find k := hq
  simp only [go_sem, Nat.reduceBEq]
  refine Br.intro (fun hb => ?_) (fun hb => ?_) <;> (try simp only [hb, go_sem, Nat.reduceBEq])
  · have hb : 0 ≤ i := by simpa using hb
    obtain ⟨n, rfl⟩ : ∃ n : Nat, i = n := ⟨i.toNat, by omega⟩
    have hn : n < t.slots.length := by omega
    obtain ⟨b2, o2, rfl, hat2'⟩ := hat2 (by omega)
    obtain ⟨e, he, _⟩ := get_lt hn
    have he' : t.slots[((n : Nat) : Int).toNat]? = some e := he
    have hbk := c.back ht n e he
    refine regionD_intro (lb := [60, 67, 72]) (by kernel_rfl) ?_
    simp only [ix_nat hn, go_sem, Nat.reduceBEq, Nat.reduceAdd]
    refine hsem_slive tyS4 hat2' hr2 he rfl ?_
    cases hlv : e.live with
    | false =>
      rw [chain_miss (c.back ht) hb he' (by rw [hlv]; simp)] at hq
      simp only [ix_nat hn, go_sem, Nat.reduceBEq, Nat.reduceAdd]
      refine hsem_slink tyS3 hat2' hr2 he rfl ?_
      simp only [go_sem, Nat.reduceBEq]
      exact Again.intro e.link (by first | omega | (simp only; omega)) ⟨by omega, by omega, hq, rfl⟩ (by repeat (first | exact wkF_e | refine wkF_c rfl ?_)) (wkB_c rfl (wkB_c rfl wkB_e)) rfl
    | true =>
      simp only [ix_nat hn, go_sem, Nat.reduceBEq]
      refine hsem_skey tyS40 hat2' hr2 he rfl ?_
      simp only [key_dec, keyT40, go_sem, Nat.reduceBEq, Nat.reduceAdd, Nat.reduceLeDiff]
      refine Br.intro (fun hk => ?_) (fun hk => ?_) <;> (try simp only [hk, go_sem, Nat.reduceBEq])
      · have hk := of_decide_eq_true hk
        rw [chain_hit hb he' ⟨hlv, hk⟩] at hq
        exact ⟨by rw [← hq]; rfl, rfl⟩
      · have hk := of_decide_eq_false hk
        rw [chain_miss (c.back ht) hb he' (by rw [hlv]; simp [hk])] at hq
        simp only [ix_nat hn, go_sem, Nat.reduceBEq, Nat.reduceAdd]
        refine hsem_slink tyS3 hat2' hr2 he rfl ?_
        simp only [go_sem, Nat.reduceBEq]
        exact Again.intro e.link (by first | omega | (simp only; omega)) ⟨by omega, by omega, hq, rfl⟩ (by repeat (first | exact wkF_e | refine wkF_c rfl ?_)) (wkB_c rfl (wkB_c rfl wkB_e)) rfl
  · have hb : i < 0 := by simp at hb; omega
    rw [chain_neg hb] at hq
    exact ⟨by rw [← hq]; rfl, rfl⟩
theorem sFind7 (t : Tb) (k : Ky) (c : t.ch) (hk : k.str.size ≤ 1152921504606846976) (s u : Value) (h : Hp) (r1 : RdI h t.heads s) (r2 : RdT h t.slots u) : ACalls Tryz.prog 114 #[.agg #[.bool t.hashed, s, u, .int .i64 t.next, .int .i64 t.count], .agg #[.bool k.text, .int .i64 k.num, .string k.str]] h (Pu (.int .i64 (ixI (t.find k))) h) := by
  obtain ⟨a1, c1, xs1, rfl, hc1, hr1, hat1⟩ := r1.rows (by decide) t.heads.length (fm_len idt_len _)
  obtain ⟨a2, c2, xs2, rfl, hc2, hr2, hat2⟩ := r2.rows (by decide) t.slots.length (fm_len Sl.dt_len _)
  have hlen := c.len
  (refine enter Tryz.func114 rfl rfl (by kernel_rfl) [] ?_; simp only [go_sem, Nat.reduceBEq])
  cases ht : t.hashed with
  | false =>
    have wl : IntKind.i64.wrap (((t.slots.length : Nat) : Int) - 1) = (t.slots.length : Int) - 1 := IntWalk.i64_in _ (by omega)
    simp only [go_sem]
    refine regionD_intro (lb := [10, 14, 16, 23, 25, 32, 34, 38]) (by kernel_rfl) ?_
    cases kt : k.text with
    | true =>
      simp only [go_sem, Nat.reduceBEq]
      exact ⟨by rw [find_no ht (by rw [kt]; simp)]; rfl, rfl⟩
    | false =>
    simp only [wl, go_sem, Nat.reduceBEq]
    (refine (l1In_c _ _ _ _).mono ?_; rintro _ _ ⟨rfl, rfl⟩; simp only [go_sem, Nat.reduceBEq])
    by_cases k0 : 0 ≤ k.num ∧ k.num ≤ (t.slots.length : Int) - 1
    case neg =>
      simp only [decide_eq_false k0, go_sem, Nat.reduceBEq]
      refine ⟨?_, rfl⟩
      rw [find_no ht ?_]
      · rfl
      · rintro ⟨_, _, q0, q⟩
        rw [List.getElem?_eq_none (by omega)] at q
        simp at q
    obtain ⟨n, hkn⟩ : ∃ n : Nat, k.num = n := ⟨k.num.toNat, by omega⟩
    have hn : n < t.slots.length := by omega
    obtain ⟨b2, o2, rfl, hat2'⟩ := hat2 (by omega)
    obtain ⟨e, he, _⟩ := get_lt hn
    have he' : t.slots[k.num.toNat]? = some e := by rw [hkn]; exact he
    have hke := (c.packed ht).2 n e he
    rw [hkn] at k0
    simp only [hkn, decide_eq_true k0, ix_nat hn, go_sem, Nat.reduceBEq, Nat.reduceAdd]
    refine hsem_slive tyS4 hat2' hr2 he rfl ?_
    cases hlv : e.live with
    | false =>
      simp only [go_sem, Nat.reduceBEq]
      refine ⟨?_, rfl⟩
      rw [find_no ht ?_]
      · rfl
      · rintro ⟨_, _, _, q⟩
        rw [he'] at q
        simp [hlv] at q
    | true =>
      simp only [ix_nat hn, go_sem, Nat.reduceBEq]
      refine hsem_skey tyS40 hat2' hr2 he rfl ?_
      have kd : decide (e.key.text = false ∧ e.key.num = ((n : Nat) : Int) ∧ e.key.str = k.str) = decide (e.key = k) := by rw [← kt, ← hkn]; exact key_dec e.key k
      simp only [kd, keyT40, go_sem, Nat.reduceBEq, Nat.reduceAdd, Nat.reduceLeDiff]
      by_cases ke : e.key = k
      · simp only [decide_eq_true ke, go_sem, Nat.reduceBEq]
        refine ⟨?_, rfl⟩
        rw [find_yes ht kt (by rw [← ke, hke]) (by omega) he' hlv, hkn]
        rfl
      · simp only [decide_eq_false ke, go_sem, Nat.reduceBEq]
        refine ⟨?_, rfl⟩
        rw [find_no ht ?_]
        · rfl
        · rintro ⟨_, q, _, _⟩
          refine ke ?_
          rw [hke, ← hkn, ← kt, ← q]
  | true =>
  have hsz := c.size ht
  have hm : k.hash % t.heads.length < t.heads.length := Nat.mod_lt _ (by omega)
  have hx := c.heads ht _ (getD_mem (d := -1) hm)
  have hh := k.hash_lt
  obtain ⟨b1, o1, rfl, hat1'⟩ := hat1 (by omega)
  have em : ((k.hash : Nat) : Int).tmod ((t.heads.length : Nat) : Int) = ((k.hash % t.heads.length : Nat) : Int) := by
    rw [Int.tmod_eq_emod_of_nonneg (by omega)]
    omega
  have hm0 : (((t.heads.length : Nat) : Int) = 0) = False := eq_false (by omega)
  simp only [go_sem]
  refine regionD_intro (lb := [44, 45, 48]) (by kernel_rfl) ?_
  simp only [go_sem, Nat.reduceBEq, Nat.reduceAdd, Nat.reduceLeDiff]
  (refine (sKeyHash k hk _).mono ?_; rintro _ _ ⟨rfl, rfl⟩; simp only [go_sem, Nat.reduceBEq])
  simp only [hm0, em, ix_nat hm, go_sem, Nat.reduceBEq, not_false_eq_true]
  refine hsem_num tyS3 hat1' hr1 (getD_at (d := -1) hm) rfl ?_
  simp only [go_sem, Nat.reduceBEq]
  refine aloop (ι := Int) (fun i => [(5, .val (.int .i64 i)), (2, .box 2 0), (3, .box 3 0)]) (fun _ => [(2, [.bool true, .slice (some ⟨b1, o1, none⟩) t.heads.length c1, .slice a2 t.slots.length c2, .int .i64 t.next, .int .i64 t.count]), (3, [.bool k.text, .int .i64 k.num, .string k.str])])
    (fun i h' => -1 ≤ i ∧ i < t.slots.length ∧ chain t.slots k i = t.find k ∧ h = h') (fun i => (i + 1).toNat) (t.heads.getD (k.hash % t.heads.length) (-1)) ⟨hx.1, hx.2, by rw [find_hashed ht], rfl⟩ (by repeat (first | exact wkF_e | refine wkF_c rfl ?_)) (wkB_c rfl (wkB_c rfl wkB_e)) rfl ?_
  rintro i _ ⟨hi0, hi1, hq, rfl⟩
  have hi0 : -1 ≤ i := hi0
  have hi1 : i < t.slots.length := hi1
  have hq : chain t.slots k i = t.find k := hq
  simp only [go_sem, Nat.reduceBEq]
  refine Br.intro (fun hb => ?_) (fun hb => ?_) <;> (try simp only [hb, go_sem, Nat.reduceBEq])
  · have hb : 0 ≤ i := by simpa using hb
    obtain ⟨n, rfl⟩ : ∃ n : Nat, i = n := ⟨i.toNat, by omega⟩
    have hn : n < t.slots.length := by omega
    obtain ⟨b2, o2, rfl, hat2'⟩ := hat2 (by omega)
    obtain ⟨e, he, _⟩ := get_lt hn
    have he' : t.slots[((n : Nat) : Int).toNat]? = some e := he
    have hbk := c.back ht n e he
    refine regionD_intro (lb := [62, 69, 74]) (by kernel_rfl) ?_
    simp only [ix_nat hn, go_sem, Nat.reduceBEq, Nat.reduceAdd]
    refine hsem_slive tyS4 hat2' hr2 he rfl ?_
    cases hlv : e.live with
    | false =>
      rw [chain_miss (c.back ht) hb he' (by rw [hlv]; simp)] at hq
      simp only [ix_nat hn, go_sem, Nat.reduceBEq, Nat.reduceAdd]
      refine hsem_slink tyS3 hat2' hr2 he rfl ?_
      simp only [go_sem, Nat.reduceBEq]
      exact Again.intro e.link (by first | omega | (simp only; omega)) ⟨by omega, by omega, hq, rfl⟩ (by repeat (first | exact wkF_e | refine wkF_c rfl ?_)) (wkB_c rfl (wkB_c rfl wkB_e)) rfl
    | true =>
      simp only [ix_nat hn, go_sem, Nat.reduceBEq]
      refine hsem_skey tyS40 hat2' hr2 he rfl ?_
      simp only [key_dec, keyT40, go_sem, Nat.reduceBEq, Nat.reduceAdd, Nat.reduceLeDiff]
      refine Br.intro (fun hk => ?_) (fun hk => ?_) <;> (try simp only [hk, go_sem, Nat.reduceBEq])
      · have hk := of_decide_eq_true hk
        rw [chain_hit hb he' ⟨hlv, hk⟩] at hq
        exact ⟨by rw [← hq]; rfl, rfl⟩
      · have hk := of_decide_eq_false hk
        rw [chain_miss (c.back ht) hb he' (by rw [hlv]; simp [hk])] at hq
        simp only [ix_nat hn, go_sem, Nat.reduceBEq, Nat.reduceAdd]
        refine hsem_slink tyS3 hat2' hr2 he rfl ?_
        simp only [go_sem, Nat.reduceBEq]
        exact Again.intro e.link (by first | omega | (simp only; omega)) ⟨by omega, by omega, hq, rfl⟩ (by repeat (first | exact wkF_e | refine wkF_c rfl ?_)) (wkB_c rfl (wkB_c rfl wkB_e)) rfl
  · have hb : i < 0 := by simp at hb; omega
    rw [chain_neg hb] at hq
    exact ⟨by rw [← hq]; rfl, rfl⟩
end Go.Proofs.YtedfplodobpgfaaGreatDoor
namespace Go.Proofs.YtedfplodobpgfaaGreatDoor
set_option maxRecDepth 8000
open Go Go.Sx
theorem eqI_c (l r : List Int) (hl : l.length ≤ 4611686018427387904) (s1 s2 : Value) (h : Hp) (r1 : RdI h l s1) (r2 : RdI h r s2) : ACalls Tryz.prog 126 #[s1, s2] h (Pu (.bool (decide (l = r))) h) := by
  obtain ⟨a1, c1, xs1, rfl, hc1, hr1, hat1⟩ := r1.rows (by decide) l.length (fm_len idt_len l)
  obtain ⟨a2, c2, xs2, rfl, hc2, hr2, hat2⟩ := r2.rows (by decide) r.length (fm_len idt_len r)
  (refine enter Tryz.func126 rfl rfl (by kernel_rfl) [] ?_; simp only [go_sem, Nat.reduceBEq])
  by_cases he : l.length = r.length
  case neg =>
    simp only [decide_eq_false (show ¬ ((l.length : Nat) : Int) = ((r.length : Nat) : Int) by omega), Bool.not_false, go_sem, Nat.reduceBEq]
    exact ⟨by rw [decide_eq_false (fun e => he (by rw [e]))], rfl⟩
  simp only [decide_eq_true (show ((l.length : Nat) : Int) = ((r.length : Nat) : Int) by omega), Bool.not_true, go_sem, Nat.reduceBEq]
  refine aloop (ι := Nat) (fun i => [(13, .val (.int .i64 (i : Nat))), (12, .val (.int .i64 (l.length : Nat))), (0, .val (.slice a1 l.length c1)), (1, .val (.slice a2 r.length c2))]) (fun _ => []) (fun i h' => i ≤ l.length ∧ l.take i = r.take i ∧ h' = h) (fun i => l.length - i) 0 ⟨Nat.zero_le _, rfl, rfl⟩ (by repeat (first | exact wkF_e | refine wkF_c rfl ?_)) wkB_e rfl ?_
  rintro i _ ⟨hi, hq, rfl⟩
  try simp only [go_sem, Nat.reduceBEq]
  refine Br.intro (fun hb => ?_) (fun hb => ?_) <;> (try simp only [hb, go_sem, Nat.reduceBEq])
  · have hb : i < l.length := by simpa using hb
    obtain ⟨b1, o1, rfl, hat1'⟩ := hat1 (by omega)
    obtain ⟨b2, o2, rfl, hat2'⟩ := hat2 (by omega)
    obtain ⟨e, he1, hm1⟩ := get_lt hb
    obtain ⟨f, he2, hm2⟩ := get_lt (l := r) (i := i) (by omega)
    have wsu := wrap_succ (i := i) (by omega)
    refine regionD_intro (lb := []) (by kernel_rfl) ?_
    simp only [ix_nat hb, go_sem, Nat.reduceBEq]
    refine hsem_num tyS3 hat1' hr1 he1 rfl ?_
    simp only [ix_nat (show i < r.length by omega), go_sem, Nat.reduceBEq]
    refine hsem_num tyS3 hat2' hr2 he2 rfl ?_
    by_cases hef : e = f
    · subst hef
      simp only [decide_true, Bool.not_true, wsu, go_sem, Nat.reduceBEq]
      exact Again.intro (i + 1) (by first | omega | (simp only; omega)) ⟨hb, by rw [take_snoc he1, take_snoc he2, hq], rfl⟩ (by repeat (first | exact wkF_e | refine wkF_c rfl ?_)) wkB_e rfl
    · simp only [decide_eq_false hef, Bool.not_false, go_sem, Nat.reduceBEq]
      refine ⟨?_, rfl⟩
      rw [decide_eq_false]
      intro hlr
      subst hlr
      rw [he1] at he2
      cases he2
      exact hef rfl
  · have hb : i = l.length := by simp at hb; omega
    subst hb
    rw [List.take_length, he, List.take_length] at hq
    exact ⟨by rw [decide_eq_true hq], rfl⟩
set_option maxHeartbeats 1600000 in
theorem iIsTable (t : Tb) (hb : t.bulk ≤ 1099511627776) (s u : Value) (h : Hp) (r1 : RdI h t.heads s) (r2 : RdT h t.slots u) (hE : Env h) : ACalls Tryz.prog 61 #[.agg #[.bool t.hashed, s, u, .int .i64 t.next, .int .i64 t.count]] h (Is (.bool t.isTab) h) := by
  obtain ⟨a1, c1, xs1, rfl, hc1, hr1, hat1⟩ := r1.rows (by decide) t.heads.length (fm_len idt_len _)
  obtain ⟨a2, c2, xs2, rfl, hc2, hr2, hat2⟩ := r2.rows (by decide) t.slots.length (fm_len Sl.dt_len _)
  have hlh : t.heads.length ≤ 1099511627776 := by unfold Tb.bulk at hb; omega
  have hls : t.slots.length ≤ 1099511627776 := by have := szG_len (w := Sl.bulk) t.slots; unfold Tb.bulk at hb; omega
  have hks : ∀ e ∈ t.slots, e.key.str.size ≤ 1099511627776 := fun e he => by
    have h1 := szG_mem (w := Sl.bulk) he
    have e1 : Sl.bulk e = e.key.str.size + e.val.bulk := rfl
    unfold Tb.bulk at hb
    omega
  (refine enter Tryz.func61 rfl rfl (by kernel_rfl) [] ?_; simp only [go_sem, Nat.reduceBEq])
  (refine (iInRange _ _ _ _).mono ?_; rintro _ _ ⟨rfl, rfl⟩; simp only [go_sem, Nat.reduceBEq])
  by_cases hnx : 0 ≤ t.next ∧ t.next ≤ 1000000001
  case neg =>
    simp only [decide_eq_false hnx, Bool.not_false, go_sem, Nat.reduceBEq]
    exact ⟨by rw [noTab fun w => hnx w.next], Ext.refl _⟩
  simp only [decide_eq_true hnx, Bool.not_true, go_sem]
  refine hsem_mk_map fun bm hbn om em => ?_
  generalize hset h bm (.map #[] 0) = h0 at om em ⊢
  try simp only [go_sem, Nat.reduceBEq]
  refine aloop (ι := Nat) (fun i => [(21, .val (.int .i64 (i : Nat))), (20, .val (.int .i64 (t.slots.length : Nat))), (19, .val (.slice a2 t.slots.length c2)), (3, .val (.map (some bm))), (1, .box 1 0)]) (fun _ => [(1, [.bool t.hashed, .slice a1 t.heads.length c1, .slice a2 t.slots.length c2, .int .i64 t.next, .int .i64 t.count])])
    (fun i h' => i ≤ t.slots.length ∧ OwM h' bm (liveK (t.slots.take i)) ∧ Ext h h' ∧ preK t i) (fun i => t.slots.length - i) 0 ⟨Nat.zero_le _, om, em, preK.zero t⟩ (by repeat (first | exact wkF_e | refine wkF_c rfl ?_)) (wkB_c rfl wkB_e) rfl ?_
  rintro i h2 ⟨hi, o2, e2, pre⟩
  have hi : i ≤ t.slots.length := hi
  have pre : preK t i := pre
  try simp only [go_sem, Nat.reduceBEq]
  refine Br.intro (fun hb => ?_) (fun hb => ?_) <;> (try simp only [hb, go_sem, Nat.reduceBEq])
  · have hb : i < t.slots.length := by simpa using hb
    obtain ⟨b2, off2, rfl, hat2'⟩ := hat2 (by omega)
    obtain ⟨e, he, hm⟩ := get_lt hb
    have wsu := wrap_succ (i := i) (by omega)
    simp only [ix_nat hb, go_sem, Nat.reduceBEq]
    refine hsem_slot tyS134 (hat2'.mono e2) (hr2.mono e2) he rfl fun s2 rd2 => ?_
    obtain ⟨a5, c5, _, rfl, _⟩ := rd2.rows (by decide) e.val.items.length (fm_len edt_len _)
    try simp only [go_sem, Nat.reduceBEq, Nat.reduceAdd, Nat.reduceLeDiff]
    refine (iIsKey e.key _ (hE.ext e2)).mono ?_
    rintro _ h7 ⟨rfl, e7⟩
    have e27 := e2.trans e7
    have om7 := o2.ext e7
    cases hko : keyOk e.key with
    | false =>
      try simp only [go_sem, Nat.reduceBEq]
      exact ⟨by rw [noTab fun w => by have := (w.keys i e he).1; rw [hko] at this; cases this], e27⟩
    | true =>
    cases kt : e.key.text with
    | true =>
      have hkx : e.key.text = true ∨ e.key.num < t.next := .inl kt
      have ev : e.key.val = .agg #[.bool true, .int .i64 e.key.num, .string e.key.str] := by unfold Ky.val; rw [kt]
      cases hlv : e.live with
      | true =>
        simp only [go_sem, Nat.reduceBEq, Nat.reduceAdd, Nat.reduceLeDiff]
        rw [← ev]
        refine hsem_map_has (by kernel_rfl) om7 e.key ?_
        by_cases hmm : e.key ∈ liveK (t.slots.take i)
        · simp only [decide_eq_true hmm, go_sem, Nat.reduceBEq]
          obtain ⟨j, u, hj, hu, lu, eu⟩ := mem_liveK.1 hmm
          exact ⟨by rw [noTab fun w => w.dist i j e u hj he hu hlv lu eu], e27⟩
        · simp only [decide_eq_false hmm, go_sem, Nat.reduceBEq, Nat.reduceAdd, Nat.reduceLeDiff]
          rw [← ev]
          refine hsem_map_add (by kernel_rfl) om7 e.key hmm fun h8 o8 b8 => ?_
          have e8 : Ext h h8 := b8.ext e27 (by simpa using hbn)
          simp only [wsu, go_sem, Nat.reduceBEq]
          refine Again.intro (i + 1) (by first | omega | (simp only; omega)) ⟨hb, by rw [liveK_snoc he, hlv]; exact o8, e8, pre.step he ⟨hko, hkx, .inl hlv⟩ fun _ => hmm⟩ (by repeat (first | exact wkF_e | refine wkF_c rfl ?_)) (wkB_c rfl wkB_e) rfl
      | false =>
        simp only [go_sem, Nat.reduceBEq, Nat.reduceAdd, Nat.reduceLeDiff]
        (refine (iZero e.val _ _ (rd2.mono e7)).mono ?_; rintro _ _ ⟨rfl, rfl⟩; simp only [go_sem, Nat.reduceBEq])
        cases hz : e.val.isZero with
        | false =>
          try simp only [go_sem, Nat.reduceBEq]
          exact ⟨by rw [noTab fun w => by have := (w.keys i e he).2.2; rw [hlv, hz] at this; simp at this], e27⟩
        | true =>
          simp only [wsu, go_sem, Nat.reduceBEq]
          refine Again.intro (i + 1) (by first | omega | (simp only; omega)) ⟨hb, by rw [liveK_snoc he, hlv]; exact om7, e27, pre.step he ⟨hko, hkx, .inr hz⟩ fun q => by rw [hlv] at q; cases q⟩ (by repeat (first | exact wkF_e | refine wkF_c rfl ?_)) (wkB_c rfl wkB_e) rfl
    | false =>
      by_cases hnn : t.next ≤ e.key.num
      · simp only [decide_eq_true hnn, go_sem, Nat.reduceBEq]
        exact ⟨by rw [noTab fun w => by have := (w.keys i e he).2.1; rw [kt] at this; simp at this; omega], e27⟩
      have hkx : e.key.text = true ∨ e.key.num < t.next := .inr (by omega)
      have ev : e.key.val = .agg #[.bool false, .int .i64 e.key.num, .string e.key.str] := by unfold Ky.val; rw [kt]
      cases hlv : e.live with
      | true =>
        simp only [decide_eq_false hnn, go_sem, Nat.reduceBEq, Nat.reduceAdd, Nat.reduceLeDiff]
        rw [← ev]
        refine hsem_map_has (by kernel_rfl) om7 e.key ?_
        by_cases hmm : e.key ∈ liveK (t.slots.take i)
        · simp only [decide_eq_true hmm, go_sem, Nat.reduceBEq]
          obtain ⟨j, u, hj, hu, lu, eu⟩ := mem_liveK.1 hmm
          exact ⟨by rw [noTab fun w => w.dist i j e u hj he hu hlv lu eu], e27⟩
        · simp only [decide_eq_false hmm, go_sem, Nat.reduceBEq, Nat.reduceAdd, Nat.reduceLeDiff]
          rw [← ev]
          refine hsem_map_add (by kernel_rfl) om7 e.key hmm fun h8 o8 b8 => ?_
          have e8 : Ext h h8 := b8.ext e27 (by simpa using hbn)
          simp only [wsu, go_sem, Nat.reduceBEq]
          refine Again.intro (i + 1) (by first | omega | (simp only; omega)) ⟨hb, by rw [liveK_snoc he, hlv]; exact o8, e8, pre.step he ⟨hko, hkx, .inl hlv⟩ fun _ => hmm⟩ (by repeat (first | exact wkF_e | refine wkF_c rfl ?_)) (wkB_c rfl wkB_e) rfl
      | false =>
        simp only [decide_eq_false hnn, go_sem, Nat.reduceBEq, Nat.reduceAdd, Nat.reduceLeDiff]
        (refine (iZero e.val _ _ (rd2.mono e7)).mono ?_; rintro _ _ ⟨rfl, rfl⟩; simp only [go_sem, Nat.reduceBEq])
        cases hz : e.val.isZero with
        | false =>
          try simp only [go_sem, Nat.reduceBEq]
          exact ⟨by rw [noTab fun w => by have := (w.keys i e he).2.2; rw [hlv, hz] at this; simp at this], e27⟩
        | true =>
          simp only [wsu, go_sem, Nat.reduceBEq]
          refine Again.intro (i + 1) (by first | omega | (simp only; omega)) ⟨hb, by rw [liveK_snoc he, hlv]; exact om7, e27, pre.step he ⟨hko, hkx, .inr hz⟩ fun q => by rw [hlv] at q; cases q⟩ (by repeat (first | exact wkF_e | refine wkF_c rfl ?_)) (wkB_c rfl wkB_e) rfl
  · have hb : i = t.slots.length := by simp at hb; omega
    subst hb
    rw [List.take_length] at o2
    try simp only [go_sem, Nat.reduceBEq, Nat.reduceAdd, Nat.reduceLeDiff, Nat.reduceEqDiff, Int.reduceEq, not_false_eq_true, Int.reduceToNat]
    refine hsem_map_len (by kernel_rfl) o2 ?_
    rw [liveK_len]
    by_cases hcn : t.count = ((liveN t.slots : Nat) : Int)
    case neg =>
      simp only [decide_eq_false hcn, Bool.not_false, go_sem, Nat.reduceBEq]
      exact ⟨by rw [noTab fun w => hcn w.cnt], e2⟩
    simp only [decide_eq_true hcn, Bool.not_true, go_sem, Nat.reduceBEq]
    by_cases ht : t.hashed = true
    · have hnt : ¬ t.hashed = false := by rw [ht]; simp
      simp only [ht, Bool.not_true, go_sem, Nat.reduceBEq]
      by_cases q1 : (t.heads.length : Int) < 8
      · simp only [decide_eq_true q1, go_sem, Nat.reduceBEq]
        exact ⟨by rw [noTab fun w => by have := (w.hash ht).1; omega], e2⟩
      by_cases q2 : (1024 : Int) < (t.heads.length : Int)
      · simp only [decide_eq_false q1, decide_eq_true q2, go_sem, Nat.reduceBEq]
        exact ⟨by rw [noTab fun w => by have := (w.hash ht).1; omega], e2⟩
      cases q3 : p2 t.heads.length with
      | false =>
        have q3' := q3
        unfold p2 at q3'
        simp only [decide_eq_false q1, decide_eq_false q2, q3', vbin_bandI, Bool.not_false, go_sem, Nat.reduceBEq]
        exact ⟨by rw [noTab fun w => by have := (w.hash ht).2.1; rw [q3] at this; cases this], e2⟩
      | true =>
      have q3' := q3
      unfold p2 at q3'
      by_cases q4 : (t.heads.length : Int) < (t.slots.length : Int)
      · simp only [decide_eq_false q1, decide_eq_false q2, q3', vbin_bandI, Bool.not_true, decide_eq_true q4, go_sem, Nat.reduceBEq]
        exact ⟨by rw [noTab fun w => by have := (w.hash ht).2.2.1; omega], e2⟩
      simp only [decide_eq_false q1, decide_eq_false q2, q3', vbin_bandI, Bool.not_true, decide_eq_false q4, go_sem, Nat.reduceBEq]
      refine (noHeads_c t.heads.length (by omega) _).mono ?_
      rintro _ h3 ⟨a3, c3, rfl, m3⟩
      obtain ⟨_, _, e5, _, _, hat3⟩ := m3.row_shape (by decide) t.heads.length (by rw [fm_len idt_len, List.length_replicate])
      cases e5
      obtain ⟨b3, rfl⟩ := hat3 (by omega)
      try simp only [go_sem, Nat.reduceBEq]
      refine aloop (ι := Nat) (fun i => [(138, .val (.int .i64 (i : Nat))), (137, .val (.int .i64 (t.slots.length : Nat))), (136, .val (.slice a2 t.slots.length c2)), (9, .val (.slice (some ⟨b3, 0, none⟩) t.heads.length c3)), (8, .val (.int .i64 (t.heads.length : Nat))), (1, .box 1 0)]) (fun _ => [(1, [.bool true, .slice a1 t.heads.length c1, .slice a2 t.slots.length c2, .int .i64 t.next, .int .i64 t.count])])
        (fun i h' => i ≤ t.slots.length ∧ My h2 h' [(.row 1 ((hdsN t.heads.length t.slots i).flatMap idt), .slice (some ⟨b3, 0, none⟩) t.heads.length c3)] ∧ preH t i) (fun i => t.slots.length - i) 0 ⟨Nat.zero_le _, m3, preH.zero t⟩ (by repeat (first | exact wkF_e | refine wkF_c rfl ?_)) (wkB_c rfl wkB_e) rfl ?_
      rintro i h4 ⟨hi, m4, prh⟩
      have hi : i ≤ t.slots.length := hi
      have m4 : My h2 h4 [(.row 1 ((hdsN t.heads.length t.slots i).flatMap idt), .slice (some ⟨b3, 0, none⟩) t.heads.length c3)] := m4
      have prh : preH t i := prh
      have hhl := hdsN_len t.heads.length t.slots i
      have e24 := e2.trans m4.ext
      try simp only [go_sem, Nat.reduceBEq]
      refine Br.intro (fun hb => ?_) (fun hb => ?_) <;> (try simp only [hb, go_sem, Nat.reduceBEq])
      · have hb : i < t.slots.length := by simpa using hb
        obtain ⟨b2, off2, rfl, hat2'⟩ := hat2 (by omega)
        obtain ⟨e, he, hm⟩ := get_lt hb
        have wsu := wrap_succ (i := i) (by omega)
        have hmm : e.key.hash % t.heads.length < t.heads.length := Nat.mod_lt _ (by omega)
        have hh := e.key.hash_lt
        have hsk := hks e hm
        have emm : ((e.key.hash : Nat) : Int) % ((t.heads.length : Nat) : Int) = ((e.key.hash % t.heads.length : Nat) : Int) := by omega
        simp only [ix_nat hb, go_sem, Nat.reduceBEq]
        refine hsem_slot tyS134 (hat2'.mono e24) (hr2.mono e24) he rfl fun s2 rd2 => ?_
        obtain ⟨a5, c5, _, rfl, _⟩ := rd2.rows (by decide) e.val.items.length (fm_len edt_len _)
        try simp only [go_sem, Nat.reduceBEq, Nat.reduceAdd, Nat.reduceLeDiff]
        (refine (iKeyHash e.key (by omega) _).mono ?_; rintro _ _ ⟨rfl, rfl⟩; simp only [go_sem, Nat.reduceBEq])
        (refine (iMod _ _ (by omega) (by omega) _).mono ?_; rintro _ _ ⟨rfl, rfl⟩; simp only [go_sem, Nat.reduceBEq])
        rw [emm]
        try simp only [go_sem, Nat.reduceBEq, Nat.reduceAdd, Nat.reduceLeDiff, Nat.reduceEqDiff, Int.reduceEq, not_false_eq_true, Int.reduceToNat]
        refine regionD_intro (lb := [149]) (by kernel_rfl) ?_
        obtain ⟨ys, hr4, hat4⟩ := m4.at_
        simp only [ix_nat hmm, go_sem, Nat.reduceBEq]
        have hgd : (hdsN t.heads.length t.slots i)[e.key.hash % t.heads.length]? = some ((hdsN t.heads.length t.slots i).getD (e.key.hash % t.heads.length) (-1)) := getD_at (by rw [hhl]; exact hmm)
        refine hsem_num tyS3 (hat4 (by omega)) hr4 hgd (by omega) ?_
        by_cases hlk : e.link = (hdsN t.heads.length t.slots i).getD (e.key.hash % t.heads.length) (-1)
        · simp only [decide_eq_true hlk, Bool.not_true, ix_nat hmm, go_sem, Nat.reduceBEq]
          obtain ⟨cn, hn, en⟩ := hold_num (es := hdsN t.heads.length t.slots i) (b := b3) (cap := c3) (i := e.key.hash % t.heads.length) (by rw [hhl]; exact hmm)
          rw [hhl] at hn
          obtain ⟨w, hw⟩ := hold_self (es := hdsN t.heads.length t.slots i) (i := e.key.hash % t.heads.length) (by rw [hhl]; exact hmm)
          refine hn.put1 (h0 := h2) (d := .raw (.int .i64 w)) tyS3 rfl rfl (by rw [en, hw]; exact m4) (by omega) fun h5 m5 => ?_
          rw [en, ← hdsN_succ he] at m5
          simp only [wsu, go_sem, Nat.reduceBEq]
          exact Again.intro (i + 1) (by first | omega | (simp only; omega)) ⟨hb, m5, prh.step he (by rw [hlk]; exact hgd)⟩ (by repeat (first | exact wkF_e | refine wkF_c rfl ?_)) (wkB_c rfl wkB_e) rfl
        · simp only [decide_eq_false hlk, Bool.not_false, go_sem, Nat.reduceBEq]
          have hno : t.isTab = false := noTab fun w => by
            have := (w.hash ht).2.2.2.1 i e he
            rw [hgd] at this
            exact hlk (Option.some.inj this).symm
          exact ⟨by rw [hno], e24⟩
      · have hb : i = t.slots.length := by simp at hb; omega
        subst hb
        try simp only [go_sem, Nat.reduceBEq, Nat.reduceAdd, Nat.reduceLeDiff, Nat.reduceEqDiff, Int.reduceEq, not_false_eq_true, Int.reduceToNat]
        refine (eqI_c (hdsN t.heads.length t.slots t.slots.length) t.heads (by rw [hhl]; omega) _ _ _ m4.rd (r1.mono e24)).mono ?_
        rintro _ _ ⟨rfl, rfl⟩
        try simp only [go_sem, Nat.reduceBEq]
        refine ⟨?_, e24⟩
        by_cases hq : hdsN t.heads.length t.slots t.slots.length = t.heads
        · rw [decide_eq_true hq, yesTab (wf_hashed ht hnx pre hcn (by omega) q3 (by omega) prh hq.symm)]
        · rw [decide_eq_false hq, noTab fun w => hq ((w.hash ht).2.2.2.2).symm]
    · have ht : t.hashed = false := by simpa using ht
      simp only [ht, Bool.not_false, go_sem]
      refine regionD_intro (lb := [79, 84, 87]) (by kernel_rfl) ?_
      by_cases q1 : t.heads.length = 0
      case neg =>
        simp only [decide_eq_true (show (0 : Int) < ((t.heads.length : Nat) : Int) by omega), go_sem, Nat.reduceBEq]
        exact ⟨by rw [noTab fun w => q1 (w.packed ht).1], e2⟩
      simp only [decide_eq_false (show ¬ (0 : Int) < ((t.heads.length : Nat) : Int) by omega), go_sem, Nat.reduceBEq]
      (refine (iMin _ _ _).mono ?_; rintro _ _ ⟨rfl, rfl⟩; simp only [go_sem, Nat.reduceBEq])
      by_cases q2 : min t.next 1024 < ((t.slots.length : Nat) : Int)
      · simp only [decide_eq_true q2, go_sem, Nat.reduceBEq]
        exact ⟨by rw [noTab fun w => by have := w.packed ht; omega], e2⟩
      simp only [decide_eq_false q2, go_sem, Nat.reduceBEq]
      refine aloop (ι := Nat) (fun i => [(94, .val (.int .i64 (i : Nat))), (93, .val (.int .i64 (t.slots.length : Nat))), (92, .val (.slice a2 t.slots.length c2))]) (fun _ => [])
        (fun i h' => i ≤ t.slots.length ∧ h2 = h' ∧ preP t i) (fun i => t.slots.length - i) 0 ⟨Nat.zero_le _, rfl, preP.zero t⟩ (by repeat (first | exact wkF_e | refine wkF_c rfl ?_)) wkB_e rfl ?_
      rintro i _ ⟨hi, rfl, prp⟩
      have hi : i ≤ t.slots.length := hi
      have prp : preP t i := prp
      try simp only [go_sem, Nat.reduceBEq]
      refine Br.intro (fun hb => ?_) (fun hb => ?_) <;> (try simp only [hb, go_sem, Nat.reduceBEq])
      · have hb : i < t.slots.length := by simpa using hb
        obtain ⟨b2, off2, rfl, hat2'⟩ := hat2 (by omega)
        obtain ⟨e, he, hm⟩ := get_lt hb
        have wsu := wrap_succ (i := i) (by omega)
        simp only [ix_nat hb, go_sem, Nat.reduceBEq]
        refine hsem_slot tyS134 (hat2'.mono e2) (hr2.mono e2) he rfl fun s2 rd2 => ?_
        obtain ⟨a5, c5, _, rfl, _⟩ := rd2.rows (by decide) e.val.items.length (fm_len edt_len _)
        try simp only [go_sem, Nat.reduceBEq, Nat.reduceAdd, Nat.reduceLeDiff]
        refine regionD_intro (lb := [100, 106]) (by kernel_rfl) ?_
        try simp only [go_sem, Nat.reduceBEq, Nat.reduceAdd, Nat.reduceLeDiff]
        (refine (iIntKey _ _).mono ?_; rintro _ _ ⟨rfl, rfl⟩; simp only [go_sem, Nat.reduceBEq])
        have kd : decide (e.key.text = false ∧ e.key.num = ((i : Nat) : Int) ∧ e.key.str = ⟨#[]⟩) = decide (e.key = ⟨false, (i : Nat), ⟨#[]⟩⟩) := key_dec e.key ⟨false, (i : Nat), ⟨#[]⟩⟩
        simp only [kd, go_sem]
        by_cases hq : e.key = ⟨false, (i : Nat), ⟨#[]⟩⟩
        case neg =>
          simp only [decide_eq_false hq, Bool.not_false, go_sem, Nat.reduceBEq]
          exact ⟨by rw [noTab fun w => hq ((w.packed ht).2.2.2 i e he).1], e2⟩
        simp only [decide_eq_true hq, Bool.not_true, go_sem, Nat.reduceBEq]
        by_cases hlk : e.link = -1
        case neg =>
          simp only [decide_eq_false hlk, Bool.not_false, go_sem, Nat.reduceBEq]
          exact ⟨by rw [noTab fun w => hlk ((w.packed ht).2.2.2 i e he).2], e2⟩
        simp only [decide_eq_true hlk, Bool.not_true, wsu, go_sem, Nat.reduceBEq]
        exact Again.intro (i + 1) (by first | omega | (simp only; omega)) ⟨hb, rfl, prp.step he ⟨hq, hlk⟩⟩ (by repeat (first | exact wkF_e | refine wkF_c rfl ?_)) wkB_e rfl
      · have hb : i = t.slots.length := by simp at hb; omega
        subst hb
        try simp only [go_sem, Nat.reduceBEq, Nat.reduceAdd, Nat.reduceLeDiff, Nat.reduceEqDiff, Int.reduceEq, not_false_eq_true, Int.reduceToNat]
        exact ⟨by rw [yesTab (wf_packed ht hnx pre hcn q1 (by omega) (by omega) prp)], e2⟩
set_option maxHeartbeats 3200000 in
theorem sIsTable (t : Tb) (hb : t.bulk ≤ 1099511627776) (s u : Value) (h : Hp) (r1 : RdI h t.heads s) (r2 : RdT h t.slots u) : ACalls Tryz.prog 53 #[.agg #[.bool t.hashed, s, u, .int .i64 t.next, .int .i64 t.count]] h (Is (.bool t.isTab) h) := by
  obtain ⟨a1, c1, xs1, rfl, hc1, hr1, hat1⟩ := r1.rows (by decide) t.heads.length (fm_len idt_len _)
  obtain ⟨a2, c2, xs2, rfl, hc2, hr2, hat2⟩ := r2.rows (by decide) t.slots.length (fm_len Sl.dt_len _)
  have hlh : t.heads.length ≤ 1099511627776 := by unfold Tb.bulk at hb; omega
  have hls : t.slots.length ≤ 1099511627776 := by have := szG_len (w := Sl.bulk) t.slots; unfold Tb.bulk at hb; omega
  have hks : ∀ e ∈ t.slots, e.key.str.size ≤ 1099511627776 := fun e he => by
    have h1 := szG_mem (w := Sl.bulk) he
    have e1 : Sl.bulk e = e.key.str.size + e.val.bulk := rfl
    unfold Tb.bulk at hb
    omega
  (refine enter Tryz.func53 rfl rfl (by kernel_rfl) [] ?_; simp only [go_sem, Nat.reduceBEq])
  (refine (l1In_c _ _ _ _).mono ?_; rintro _ _ ⟨rfl, rfl⟩; simp only [go_sem, Nat.reduceBEq])
  by_cases hnx : 0 ≤ t.next ∧ t.next ≤ 1000000001
  case neg =>
    simp only [decide_eq_false hnx, Bool.not_false, go_sem, Nat.reduceBEq]
    exact ⟨by rw [noTab fun w => hnx w.next], Ext.refl _⟩
  by_cases q0 : (1024 : Int) < ((t.slots.length : Nat) : Int)
  · simp only [decide_eq_true hnx, Bool.not_true, decide_eq_true q0, go_sem, Nat.reduceBEq]
    exact ⟨by rw [noTab fun w => by have := w.ch.len; omega], Ext.refl _⟩
  by_cases ht : t.hashed = true
  · simp only [decide_eq_true hnx, Bool.not_true, decide_eq_false q0, ht, go_sem, Nat.reduceBEq]
    (refine (l1In_c _ _ _ _).mono ?_; rintro _ _ ⟨rfl, rfl⟩; simp only [go_sem, Nat.reduceBEq])
    by_cases q1 : (8 : Int) ≤ ((t.heads.length : Nat) : Int) ∧ ((t.heads.length : Nat) : Int) ≤ 1024
    case neg =>
      simp only [decide_eq_false q1, Bool.not_false, go_sem, Nat.reduceBEq]
      exact ⟨by rw [noTab fun w => by have := (w.hash ht).1; omega], Ext.refl _⟩
    cases q3 : p2 t.heads.length with
    | false =>
      have q3' := q3
      unfold p2 at q3'
      simp only [decide_eq_true q1, Bool.not_true, q3', vbin_bandI, Bool.not_false, go_sem, Nat.reduceBEq]
      exact ⟨by rw [noTab fun w => by have := (w.hash ht).2.1; rw [q3] at this; cases this], Ext.refl _⟩
    | true =>
    have q3' := q3
    unfold p2 at q3'
    by_cases q4 : ((t.heads.length : Nat) : Int) < ((t.slots.length : Nat) : Int)
    · simp only [decide_eq_true q1, Bool.not_true, q3', vbin_bandI, decide_eq_true q4, go_sem, Nat.reduceBEq]
      exact ⟨by rw [noTab fun w => by have := (w.hash ht).2.2.1; omega], Ext.refl _⟩
    simp only [decide_eq_true q1, Bool.not_true, q3', vbin_bandI, decide_eq_false q4, go_sem, Nat.reduceBEq]
    refine hsem_my_make slT22 (by decide) rfl rfl (n := t.heads.length) (by omega) (by decide) (My.nil (Ext.refl h)) fun bo h1 m1 => ?_
    try simp only [go_sem, Nat.reduceBEq]
    generalize hzz : SlT.zero _ = zz at m1
    refine aloop (ι := Nat) (fun b => [(6, .val (.int .i64 (b : Nat))), (5, .val (.slice (some ⟨bo, 0, none⟩) t.heads.length t.heads.length)), (3, .val (.int .i64 (t.heads.length : Nat))), (4, .val (.int .i64 0)), (1, .box 1 0)]) (fun _ => [(1, [.bool true, .slice a1 t.heads.length c1, .slice a2 t.slots.length c2, .int .i64 t.next, .int .i64 t.count])])
      (fun b h' => b ≤ t.heads.length ∧ My h h' [(.row 1 ((List.replicate b (-1)).flatMap idt ++ zeros zz (t.heads.length - b)), .slice (some ⟨bo, 0, none⟩) t.heads.length t.heads.length)]) (fun b => t.heads.length - b) 0 ⟨Nat.zero_le _, m1⟩ (by repeat (first | exact wkF_e | refine wkF_c rfl ?_)) (wkB_c rfl wkB_e) rfl ?_
    rintro b h2 ⟨hi, m2⟩
    have hi : b ≤ t.heads.length := hi
    have m2 : My h h2 [(.row 1 ((List.replicate b (-1)).flatMap idt ++ zeros zz (t.heads.length - b)), .slice (some ⟨bo, 0, none⟩) t.heads.length t.heads.length)] := m2
    try simp only [go_sem, Nat.reduceBEq]
    refine Br.intro (fun hb => ?_) (fun hb => ?_) <;> (try simp only [hb, go_sem, Nat.reduceBEq])
    · have hb : b < t.heads.length := by simpa using hb
      have wsu := wrap_succ (i := b) (by omega)
      simp only [ix_nat hb, go_sem, Nat.reduceBEq]
      rw [zeros_sub zz hb] at m2
      have m3 : My h h2 ((.raw (.int .i64 (-1)), .int .i64 (-1)) :: [(.row 1 ((List.replicate b (-1)).flatMap idt ++ (zz.map .raw ++ zeros zz (t.heads.length - (b + 1)))), .slice (some ⟨bo, 0, none⟩) t.heads.length t.heads.length)]) := m2.raw rfl
      refine hsem_my_put (es := idt (-1)) tyS3 m3 (by omega) (by rw [List.length_map, ← hzz]; rfl) rfl rfl ?_ fun h4 m4 => ?_
      · rw [fm_len idt_len, List.length_replicate]
      simp only [wsu, go_sem, Nat.reduceBEq]
      refine Again.intro (b + 1) (by first | omega | (simp only; omega)) ⟨hb, ?_⟩ (by repeat (first | exact wkF_e | refine wkF_c rfl ?_)) (wkB_c rfl wkB_e) rfl
      rw [List.replicate_succ', List.flatMap_append, List.flatMap_cons, List.flatMap_nil, List.append_nil, List.append_assoc]
      exact m4
    have hb : b = t.heads.length := by simp at hb; omega
    subst hb
    rw [Nat.sub_self] at m2
    have m3 : My h h2 [(.row 1 ((hdsN t.heads.length t.slots 0).flatMap idt), .slice (some ⟨bo, 0, none⟩) t.heads.length t.heads.length)] := by simpa [zeros, hdsN] using m2
    try simp only [go_sem, Nat.reduceBEq, Nat.reduceAdd, Nat.reduceLeDiff, Nat.reduceEqDiff, Int.reduceEq, not_false_eq_true, Int.reduceToNat]
    refine aloop (ι := Nat) (fun i => [(7, .val (.int .i64 (i : Nat))), (5, .val (.slice (some ⟨bo, 0, none⟩) t.heads.length t.heads.length)), (3, .val (.int .i64 (t.heads.length : Nat))), (4, .val (.int .i64 (liveN (t.slots.take i) : Nat))), (1, .box 1 0)]) (fun _ => [(1, [.bool true, .slice a1 t.heads.length c1, .slice a2 t.slots.length c2, .int .i64 t.next, .int .i64 t.count])])
      (fun i h' => i ≤ t.slots.length ∧ My h h' [(.row 1 ((hdsN t.heads.length t.slots i).flatMap idt), .slice (some ⟨bo, 0, none⟩) t.heads.length t.heads.length)] ∧ preH t i ∧ preK t i) (fun i => t.slots.length - i) 0 ⟨Nat.zero_le _, m3, preH.zero t, preK.zero t⟩ (by repeat (first | exact wkF_e | refine wkF_c rfl ?_)) (wkB_c rfl wkB_e) rfl ?_
    rintro i h6 ⟨hi, m6, prh, pre⟩
    have hi : i ≤ t.slots.length := hi
    have m6 : My h h6 [(.row 1 ((hdsN t.heads.length t.slots i).flatMap idt), .slice (some ⟨bo, 0, none⟩) t.heads.length t.heads.length)] := m6
    have prh : preH t i := prh
    have pre : preK t i := pre
    have hhl := hdsN_len t.heads.length t.slots i
    try simp only [go_sem, Nat.reduceBEq]
    refine Br.intro (fun hb => ?_) (fun hb => ?_) <;> (try simp only [hb, go_sem, Nat.reduceBEq])
    · have hb : i < t.slots.length := by simpa using hb
      obtain ⟨b2, off2, rfl, hat2'⟩ := hat2 (by omega)
      obtain ⟨e, he, hm⟩ := get_lt hb
      have wsu := wrap_succ (i := i) (by omega)
      have hln := liveN_take t.slots i
      have hln2 := liveN_le t.slots
      have wnu := wrap_succ (i := liveN (t.slots.take i)) (by omega)
      have hmm : e.key.hash % t.heads.length < t.heads.length := Nat.mod_lt _ (by omega)
      have hh := e.key.hash_lt
      have hsk := hks e hm
      have emm : ((e.key.hash : Nat) : Int).tmod ((t.heads.length : Nat) : Int) = ((e.key.hash % t.heads.length : Nat) : Int) := by
        rw [Int.tmod_eq_emod_of_nonneg (by omega)]
        omega
      have hm0 : (((t.heads.length : Nat) : Int) = 0) = False := eq_false (by omega)
      simp only [ix_nat hb, go_sem, Nat.reduceBEq]
      refine hsem_slotB m6.ext tyS134 hat2' hr2 he rfl fun s2 rd2 => ?_
      obtain ⟨a5, c5, _, rfl, _⟩ := rd2.rows (by decide) e.val.items.length (fm_len edt_len _)
      try simp only [go_sem, Nat.reduceBEq, Nat.reduceAdd, Nat.reduceLeDiff]
      (refine (sKeyHash e.key (by omega) _).mono ?_; rintro _ _ ⟨rfl, rfl⟩; simp only [go_sem, Nat.reduceBEq])
      obtain ⟨ys, hr4, hat4⟩ := m6.at_
      simp only [hm0, emm, ix_nat hmm, go_sem, Nat.reduceBEq, not_false_eq_true]
      have hgd : (hdsN t.heads.length t.slots i)[e.key.hash % t.heads.length]? = some ((hdsN t.heads.length t.slots i).getD (e.key.hash % t.heads.length) (-1)) := getD_at (by rw [hhl]; exact hmm)
      refine hsem_num tyS3 (hat4 (by omega)) hr4 hgd (by omega) ?_
      simp only [ix_nat hmm, go_sem, Nat.reduceBEq]
      obtain ⟨cn, hn, en⟩ := hold_num (es := hdsN t.heads.length t.slots i) (b := bo) (cap := t.heads.length) (i := e.key.hash % t.heads.length) (by rw [hhl]; exact hmm)
      rw [hhl] at hn
      obtain ⟨w, hw⟩ := hold_self (es := hdsN t.heads.length t.slots i) (i := e.key.hash % t.heads.length) (by rw [hhl]; exact hmm)
      refine hn.put1 (h0 := h) (d := .raw (.int .i64 w)) tyS3 rfl rfl (by rw [en, hw]; exact m6) (by omega) fun h5 m5 => ?_
      rw [en, ← hdsN_succ he] at m5
      try simp only [go_sem, Nat.reduceBEq, Nat.reduceAdd, Nat.reduceLeDiff]
      refine (sIsKey e.key _ (by omega)).mono ?_
      rintro _ h7 ⟨rfl, e7⟩
      have m7 := m5.mono e7
      have e67 := m7.ext
      cases hko : keyOk e.key with
      | false =>
        try simp only [go_sem, Nat.reduceBEq]
        exact ⟨by rw [noTab fun w => by have := (w.keys i e he).1; rw [hko] at this; cases this], e67⟩
      | true =>
      by_cases hlk : e.link = (hdsN t.heads.length t.slots i).getD (e.key.hash % t.heads.length) (-1)
      case neg =>
        simp only [decide_eq_false hlk, Bool.not_false, go_sem, Nat.reduceBEq]
        have hno : t.isTab = false := noTab fun w => by
          have := (w.hash ht).2.2.2.1 i e he
          rw [hgd] at this
          exact hlk (Option.some.inj this).symm
        exact ⟨by rw [hno], e67⟩
      cases kt : e.key.text with
      | true =>
        have hkx : e.key.text = true ∨ e.key.num < t.next := .inl kt
        cases hlw : e.live with
        | true =>
          have hzo : e.live = true ∨ e.val.isZero = true := .inl hlw
          simp only [decide_eq_true hlk, Bool.not_true, go_sem, Nat.reduceBEq]
          refine aloop (ι := Nat) (fun j => (11, .val (.int .i64 (j : Nat))) :: (8, .box 8 0) :: [(7, .val (.int .i64 (i : Nat))), (5, .val (.slice (some ⟨bo, 0, none⟩) t.heads.length t.heads.length)), (3, .val (.int .i64 (t.heads.length : Nat))), (4, .val (.int .i64 (liveN (t.slots.take i) : Nat))), (1, .box 1 0)]) (fun _ => [(8, [.bool true, .int .i64 e.key.num, .string e.key.str, .int .i64 e.val.kind, .int .i64 e.val.num, .string e.val.str, .int .i64 e.val.next, .slice a5 e.val.items.length c5, .bool true, .int .i64 e.link]), (1, [.bool true, .slice a1 t.heads.length c1, .slice (some ⟨b2, off2, none⟩) t.slots.length c2, .int .i64 t.next, .int .i64 t.count])])
            (fun j h' => h7 = h' ∧ j ≤ i ∧ ∀ (q : Nat) (u : Sl), q < j → t.slots[q]? = some u → u.live = true → ¬ u.key = e.key) (fun j => i - j) 0 ⟨rfl, Nat.zero_le _, fun _ _ h => by omega⟩ (by repeat (first | exact wkF_e | refine wkF_c rfl ?_)) (wkB_c rfl (wkB_c rfl wkB_e)) rfl ?_
          rintro j _ ⟨rfl, hji, hall⟩
          have hji : j ≤ i := hji
          have hall : ∀ (q : Nat) (u : Sl), q < j → t.slots[q]? = some u → u.live = true → ¬ u.key = e.key := hall
          by_cases hj : j < i
          · have hjl : j < t.slots.length := by omega
            obtain ⟨u, hu, _⟩ := get_lt hjl
            have wsj := wrap_succ (i := j) (by omega)
            simp only [decide_eq_true (show ((j : Nat) : Int) < ((i : Nat) : Int) by omega), go_sem, Nat.reduceBEq]
            refine regionD_intro (lb := [157, 164, 170]) (by kernel_rfl) ?_
            simp only [ix_nat hjl, go_sem, Nat.reduceBEq, Nat.reduceAdd]
            refine hsem_slive tyS4 (hat2'.mono e67) (hr2.mono e67) hu rfl ?_
            cases hlu : u.live with
            | false =>
              simp only [wsj, go_sem, Nat.reduceBEq]
              exact Again.intro (j + 1) (by first | omega | (simp only; omega)) ⟨rfl, hj, fun q v hq hv lv => by
                by_cases hqj : q = j
                · subst hqj; rw [hu] at hv; cases hv; rw [hlu] at lv; cases lv
                · exact hall q v (by omega) hv lv⟩ (by repeat (first | exact wkF_e | refine wkF_c rfl ?_)) (wkB_c rfl (wkB_c rfl wkB_e)) rfl
            | true =>
              simp only [ix_nat hjl, go_sem, Nat.reduceBEq]
              refine hsem_skey tyS40 (hat2'.mono e67) (hr2.mono e67) hu rfl ?_
              have kd : decide (u.key.text = true ∧ u.key.num = e.key.num ∧ u.key.str = e.key.str) = decide (u.key = e.key) := by rw [← kt]; exact key_dec u.key e.key
              simp only [kd, keyT40, go_sem, Nat.reduceBEq, Nat.reduceAdd, Nat.reduceLeDiff]
              by_cases hk : u.key = e.key
              · simp only [decide_eq_true hk, go_sem, Nat.reduceBEq]
                exact ⟨by rw [noTab fun w => w.dist i j e u hj he hu hlw hlu hk], e67⟩
              · simp only [decide_eq_false hk, wsj, go_sem, Nat.reduceBEq]
                exact Again.intro (j + 1) (by first | omega | (simp only; omega)) ⟨rfl, hj, fun q v hq hv lv => by
                  by_cases hqj : q = j
                  · subst hqj; rw [hu] at hv; cases hv; exact hk
                  · exact hall q v (by omega) hv lv⟩ (by repeat (first | exact wkF_e | refine wkF_c rfl ?_)) (wkB_c rfl (wkB_c rfl wkB_e)) rfl
          · have hdd : e.live = true → e.key ∉ liveK (t.slots.take i) := fun _ hm => by
              obtain ⟨q, u, hq, hu, lu, eu⟩ := mem_liveK.1 hm
              exact hall q u (by omega) hu lu eu
            simp only [decide_eq_false (show ¬ ((j : Nat) : Int) < ((i : Nat) : Int) by omega), wnu, wsu, go_sem, Nat.reduceBEq, Nat.reduceEqDiff]
            have hln3 : liveN (t.slots.take (i + 1)) = liveN (t.slots.take i) + 1 := by rw [liveN_snoc he, hlw]; rfl
            refine Again.intro (i + 1) (by first | omega | (simp only; omega)) ⟨hb, m7, prh.step he (by rw [hlk]; exact hgd), pre.step he ⟨hko, hkx, hzo⟩ hdd⟩ (by simp only [hln3]; exact (by repeat (first | exact wkF_e | refine wkF_c rfl ?_))) (wkB_c rfl wkB_e) rfl
        | false =>
          simp only [decide_eq_true hlk, Bool.not_true, go_sem, Nat.reduceBEq, Nat.reduceAdd, Nat.reduceLeDiff]
          (refine (sZero e.val _ _ (rd2.mono e67)).mono ?_; rintro _ _ ⟨rfl, rfl⟩; simp only [go_sem, Nat.reduceBEq])
          cases hz : e.val.isZero with
          | false =>
            try simp only [go_sem, Nat.reduceBEq]
            exact ⟨by rw [noTab fun w => by have := (w.keys i e he).2.2; rw [hlw, hz] at this; simp at this], e67⟩
          | true =>
            have hzo : e.live = true ∨ e.val.isZero = true := .inr hz
            try simp only [go_sem]
            have hdd : e.live = true → e.key ∉ liveK (t.slots.take i) := fun q => by rw [hlw] at q; cases q
            refine aloop (ι := Unit) (fun _ => (11, .val (.int .i64 0)) :: (8, .box 8 0) :: [(7, .val (.int .i64 (i : Nat))), (5, .val (.slice (some ⟨bo, 0, none⟩) t.heads.length t.heads.length)), (3, .val (.int .i64 (t.heads.length : Nat))), (4, .val (.int .i64 (liveN (t.slots.take i) : Nat))), (1, .box 1 0)]) (fun _ => [(8, [.bool true, .int .i64 e.key.num, .string e.key.str, .int .i64 e.val.kind, .int .i64 e.val.num, .string e.val.str, .int .i64 e.val.next, .slice a5 e.val.items.length c5, .bool false, .int .i64 e.link]), (1, [.bool true, .slice a1 t.heads.length c1, .slice (some ⟨b2, off2, none⟩) t.slots.length c2, .int .i64 t.next, .int .i64 t.count])]) (fun _ h' => h7 = h') (fun _ => 0) () rfl (by repeat (first | exact wkF_e | refine wkF_c rfl ?_)) (wkB_c rfl (wkB_c rfl wkB_e)) rfl ?_
            rintro _ _ rfl
            simp only [wsu, go_sem, Nat.reduceBEq, Nat.reduceEqDiff]
            have hln3 : liveN (t.slots.take (i + 1)) = liveN (t.slots.take i) := by rw [liveN_snoc he, hlw]; rfl
            refine Again.intro (i + 1) (by first | omega | (simp only; omega)) ⟨hb, m7, prh.step he (by rw [hlk]; exact hgd), pre.step he ⟨hko, hkx, hzo⟩ hdd⟩ (by simp only [hln3]; exact (by repeat (first | exact wkF_e | refine wkF_c rfl ?_))) (wkB_c rfl wkB_e) rfl
      | false =>
        by_cases hnn : t.next ≤ e.key.num
        · simp only [decide_eq_true hlk, Bool.not_true, decide_eq_true hnn, go_sem, Nat.reduceBEq]
          exact ⟨by rw [noTab fun w => by have := (w.keys i e he).2.1; rw [kt] at this; simp at this; omega], e67⟩
        have hkx : e.key.text = true ∨ e.key.num < t.next := .inr (by omega)
        cases hlw : e.live with
        | true =>
          have hzo : e.live = true ∨ e.val.isZero = true := .inl hlw
          simp only [decide_eq_true hlk, Bool.not_true, decide_eq_false hnn, go_sem, Nat.reduceBEq]
          refine aloop (ι := Nat) (fun j => (11, .val (.int .i64 (j : Nat))) :: (8, .box 8 0) :: [(7, .val (.int .i64 (i : Nat))), (5, .val (.slice (some ⟨bo, 0, none⟩) t.heads.length t.heads.length)), (3, .val (.int .i64 (t.heads.length : Nat))), (4, .val (.int .i64 (liveN (t.slots.take i) : Nat))), (1, .box 1 0)]) (fun _ => [(8, [.bool false, .int .i64 e.key.num, .string e.key.str, .int .i64 e.val.kind, .int .i64 e.val.num, .string e.val.str, .int .i64 e.val.next, .slice a5 e.val.items.length c5, .bool true, .int .i64 e.link]), (1, [.bool true, .slice a1 t.heads.length c1, .slice (some ⟨b2, off2, none⟩) t.slots.length c2, .int .i64 t.next, .int .i64 t.count])])
            (fun j h' => h7 = h' ∧ j ≤ i ∧ ∀ (q : Nat) (u : Sl), q < j → t.slots[q]? = some u → u.live = true → ¬ u.key = e.key) (fun j => i - j) 0 ⟨rfl, Nat.zero_le _, fun _ _ h => by omega⟩ (by repeat (first | exact wkF_e | refine wkF_c rfl ?_)) (wkB_c rfl (wkB_c rfl wkB_e)) rfl ?_
          rintro j _ ⟨rfl, hji, hall⟩
          have hji : j ≤ i := hji
          have hall : ∀ (q : Nat) (u : Sl), q < j → t.slots[q]? = some u → u.live = true → ¬ u.key = e.key := hall
          by_cases hj : j < i
          · have hjl : j < t.slots.length := by omega
            obtain ⟨u, hu, _⟩ := get_lt hjl
            have wsj := wrap_succ (i := j) (by omega)
            simp only [decide_eq_true (show ((j : Nat) : Int) < ((i : Nat) : Int) by omega), go_sem, Nat.reduceBEq]
            refine regionD_intro (lb := [157, 164, 170]) (by kernel_rfl) ?_
            simp only [ix_nat hjl, go_sem, Nat.reduceBEq, Nat.reduceAdd]
            refine hsem_slive tyS4 (hat2'.mono e67) (hr2.mono e67) hu rfl ?_
            cases hlu : u.live with
            | false =>
              simp only [wsj, go_sem, Nat.reduceBEq]
              exact Again.intro (j + 1) (by first | omega | (simp only; omega)) ⟨rfl, hj, fun q v hq hv lv => by
                by_cases hqj : q = j
                · subst hqj; rw [hu] at hv; cases hv; rw [hlu] at lv; cases lv
                · exact hall q v (by omega) hv lv⟩ (by repeat (first | exact wkF_e | refine wkF_c rfl ?_)) (wkB_c rfl (wkB_c rfl wkB_e)) rfl
            | true =>
              simp only [ix_nat hjl, go_sem, Nat.reduceBEq]
              refine hsem_skey tyS40 (hat2'.mono e67) (hr2.mono e67) hu rfl ?_
              have kd : decide (u.key.text = false ∧ u.key.num = e.key.num ∧ u.key.str = e.key.str) = decide (u.key = e.key) := by rw [← kt]; exact key_dec u.key e.key
              simp only [kd, keyT40, go_sem, Nat.reduceBEq, Nat.reduceAdd, Nat.reduceLeDiff]
              by_cases hk : u.key = e.key
              · simp only [decide_eq_true hk, go_sem, Nat.reduceBEq]
                exact ⟨by rw [noTab fun w => w.dist i j e u hj he hu hlw hlu hk], e67⟩
              · simp only [decide_eq_false hk, wsj, go_sem, Nat.reduceBEq]
                exact Again.intro (j + 1) (by first | omega | (simp only; omega)) ⟨rfl, hj, fun q v hq hv lv => by
                  by_cases hqj : q = j
                  · subst hqj; rw [hu] at hv; cases hv; exact hk
                  · exact hall q v (by omega) hv lv⟩ (by repeat (first | exact wkF_e | refine wkF_c rfl ?_)) (wkB_c rfl (wkB_c rfl wkB_e)) rfl
          · have hdd : e.live = true → e.key ∉ liveK (t.slots.take i) := fun _ hm => by
              obtain ⟨q, u, hq, hu, lu, eu⟩ := mem_liveK.1 hm
              exact hall q u (by omega) hu lu eu
            simp only [decide_eq_false (show ¬ ((j : Nat) : Int) < ((i : Nat) : Int) by omega), wnu, wsu, go_sem, Nat.reduceBEq, Nat.reduceEqDiff]
            have hln3 : liveN (t.slots.take (i + 1)) = liveN (t.slots.take i) + 1 := by rw [liveN_snoc he, hlw]; rfl
            refine Again.intro (i + 1) (by first | omega | (simp only; omega)) ⟨hb, m7, prh.step he (by rw [hlk]; exact hgd), pre.step he ⟨hko, hkx, hzo⟩ hdd⟩ (by simp only [hln3]; exact (by repeat (first | exact wkF_e | refine wkF_c rfl ?_))) (wkB_c rfl wkB_e) rfl
        | false =>
          simp only [decide_eq_true hlk, Bool.not_true, decide_eq_false hnn, go_sem, Nat.reduceBEq, Nat.reduceAdd, Nat.reduceLeDiff]
          (refine (sZero e.val _ _ (rd2.mono e67)).mono ?_; rintro _ _ ⟨rfl, rfl⟩; simp only [go_sem, Nat.reduceBEq])
          cases hz : e.val.isZero with
          | false =>
            try simp only [go_sem, Nat.reduceBEq]
            exact ⟨by rw [noTab fun w => by have := (w.keys i e he).2.2; rw [hlw, hz] at this; simp at this], e67⟩
          | true =>
            have hzo : e.live = true ∨ e.val.isZero = true := .inr hz
            try simp only [go_sem]
            have hdd : e.live = true → e.key ∉ liveK (t.slots.take i) := fun q => by rw [hlw] at q; cases q
            refine aloop (ι := Unit) (fun _ => (11, .val (.int .i64 0)) :: (8, .box 8 0) :: [(7, .val (.int .i64 (i : Nat))), (5, .val (.slice (some ⟨bo, 0, none⟩) t.heads.length t.heads.length)), (3, .val (.int .i64 (t.heads.length : Nat))), (4, .val (.int .i64 (liveN (t.slots.take i) : Nat))), (1, .box 1 0)]) (fun _ => [(8, [.bool false, .int .i64 e.key.num, .string e.key.str, .int .i64 e.val.kind, .int .i64 e.val.num, .string e.val.str, .int .i64 e.val.next, .slice a5 e.val.items.length c5, .bool false, .int .i64 e.link]), (1, [.bool true, .slice a1 t.heads.length c1, .slice (some ⟨b2, off2, none⟩) t.slots.length c2, .int .i64 t.next, .int .i64 t.count])]) (fun _ h' => h7 = h') (fun _ => 0) () rfl (by repeat (first | exact wkF_e | refine wkF_c rfl ?_)) (wkB_c rfl (wkB_c rfl wkB_e)) rfl ?_
            rintro _ _ rfl
            simp only [wsu, go_sem, Nat.reduceBEq, Nat.reduceEqDiff]
            have hln3 : liveN (t.slots.take (i + 1)) = liveN (t.slots.take i) := by rw [liveN_snoc he, hlw]; rfl
            refine Again.intro (i + 1) (by first | omega | (simp only; omega)) ⟨hb, m7, prh.step he (by rw [hlk]; exact hgd), pre.step he ⟨hko, hkx, hzo⟩ hdd⟩ (by simp only [hln3]; exact (by repeat (first | exact wkF_e | refine wkF_c rfl ?_))) (wkB_c rfl wkB_e) rfl
    · have hb : i = t.slots.length := by simp at hb; omega
      subst hb
      try simp only [go_sem, Nat.reduceBEq, Nat.reduceAdd, Nat.reduceLeDiff, Nat.reduceEqDiff, Int.reduceEq, not_false_eq_true, Int.reduceToNat]
      rw [List.take_length]
      refine aloop (ι := Nat) (fun b => (12, .val (.int .i64 (b : Nat))) :: [(5, .val (.slice (some ⟨bo, 0, none⟩) t.heads.length t.heads.length)), (3, .val (.int .i64 (t.heads.length : Nat))), (4, .val (.int .i64 (liveN t.slots : Nat))), (1, .box 1 0)]) (fun _ => [(1, [.bool true, .slice a1 t.heads.length c1, .slice a2 t.slots.length c2, .int .i64 t.next, .int .i64 t.count])])
        (fun b h' => h6 = h' ∧ b ≤ t.heads.length ∧ t.heads.take b = (hdsN t.heads.length t.slots t.slots.length).take b) (fun b => t.heads.length - b) 0 ⟨rfl, Nat.zero_le _, rfl⟩ (by repeat (first | exact wkF_e | refine wkF_c rfl ?_)) (wkB_c rfl wkB_e) rfl ?_
      rintro b _ ⟨rfl, hi2, hq⟩
      have hi2 : b ≤ t.heads.length := hi2
      have hq : t.heads.take b = (hdsN t.heads.length t.slots t.slots.length).take b := hq
      try simp only [go_sem, Nat.reduceBEq]
      refine Br.intro (fun hb => ?_) (fun hb => ?_) <;> (try simp only [hb, go_sem, Nat.reduceBEq])
      · have hb : b < t.heads.length := by simpa using hb
        obtain ⟨b1, off1, rfl, hat1'⟩ := hat1 (by omega)
        obtain ⟨x, hx, _⟩ := get_lt hb
        obtain ⟨y, hy, _⟩ := get_lt (l := hdsN t.heads.length t.slots t.slots.length) (i := b) (by omega)
        have wsu := wrap_succ (i := b) (by omega)
        obtain ⟨ys, hr4, hat4⟩ := m6.at_
        refine regionD_intro (lb := [183]) (by kernel_rfl) ?_
        simp only [ix_nat hb, go_sem, Nat.reduceBEq]
        refine hsem_num tyS3 (hat1'.mono m6.ext) (hr1.mono m6.ext) hx rfl ?_
        simp only [ix_nat hb, go_sem, Nat.reduceBEq]
        refine hsem_num tyS3 (hat4 (by omega)) hr4 hy (by omega) ?_
        by_cases hxy : x = y
        · subst hxy
          simp only [decide_true, Bool.not_true, wsu, go_sem, Nat.reduceBEq]
          exact Again.intro (b + 1) (by first | omega | (simp only; omega)) ⟨rfl, hb, by rw [take_snoc hx, take_snoc hy, hq]⟩ (by repeat (first | exact wkF_e | refine wkF_c rfl ?_)) (wkB_c rfl wkB_e) rfl
        · simp only [decide_eq_false hxy, Bool.not_false, go_sem, Nat.reduceBEq]
          have hno : t.isTab = false := noTab fun w => by
            have := (w.hash ht).2.2.2.2
            rw [← this, hx] at hy
            exact hxy (Option.some.inj hy)
          exact ⟨by rw [hno], m6.ext⟩
      · have hb : b = t.heads.length := by simp at hb; omega
        subst hb
        rw [List.take_length, List.take_of_length_le (by omega)] at hq
        try simp only [go_sem, Nat.reduceBEq, Nat.reduceAdd, Nat.reduceLeDiff, Nat.reduceEqDiff, Int.reduceEq, not_false_eq_true, Int.reduceToNat]
        refine ⟨?_, m6.ext⟩
        by_cases hcn : ((liveN t.slots : Nat) : Int) = t.count
        · rw [decide_eq_true hcn, yesTab (wf_hashed ht hnx pre hcn.symm (by omega) q3 (by omega) prh hq)]
        · rw [decide_eq_false hcn, noTab fun w => hcn w.cnt.symm]
  · have ht : t.hashed = false := by simpa using ht
    simp only [decide_eq_true hnx, Bool.not_true, decide_eq_false q0, ht, Bool.not_false, go_sem, Nat.reduceBEq]
    by_cases q1 : t.heads.length = 0
    case neg =>
      simp only [decide_eq_true (show (0 : Int) < ((t.heads.length : Nat) : Int) by omega), go_sem, Nat.reduceBEq]
      exact ⟨by rw [noTab fun w => q1 (w.packed ht).1], Ext.refl _⟩
    by_cases q2 : t.next < ((t.slots.length : Nat) : Int)
    · simp only [decide_eq_false (show ¬ (0 : Int) < ((t.heads.length : Nat) : Int) by omega), decide_eq_true q2, go_sem, Nat.reduceBEq]
      exact ⟨by rw [noTab fun w => by have := (w.packed ht).2.1; omega], Ext.refl _⟩
    simp only [decide_eq_false (show ¬ (0 : Int) < ((t.heads.length : Nat) : Int) by omega), decide_eq_false q2, go_sem, Nat.reduceBEq]
    refine hsem_my_make slT22 (by decide) rfl rfl (n := t.heads.length) (by omega) (by decide) (My.nil (Ext.refl h)) fun bo h1 m1 => ?_
    have em1 := m1.ext
    clear m1
    try simp only [go_sem, Nat.reduceBEq]
    refine aloop (ι := Unit) (fun _ => [(6, .val (.int .i64 0)), (5, .val (.slice (some ⟨bo, 0, none⟩) t.heads.length t.heads.length)), (3, .val (.int .i64 (t.heads.length : Nat))), (4, .val (.int .i64 0)), (1, .box 1 0)]) (fun _ => [(1, [.bool false, .slice a1 t.heads.length c1, .slice a2 t.slots.length c2, .int .i64 t.next, .int .i64 t.count])])
      (fun _ h' => h1 = h') (fun _ => 0) () rfl (by repeat (first | exact wkF_e | refine wkF_c rfl ?_)) (wkB_c rfl wkB_e) rfl ?_
    rintro _ _ rfl
    simp only [decide_eq_false (show ¬ (0 : Int) < ((t.heads.length : Nat) : Int) by omega), go_sem, Nat.reduceBEq]
    refine aloop (ι := Nat) (fun i => [(7, .val (.int .i64 (i : Nat))), (5, .val (.slice (some ⟨bo, 0, none⟩) t.heads.length t.heads.length)), (3, .val (.int .i64 (t.heads.length : Nat))), (4, .val (.int .i64 (liveN (t.slots.take i) : Nat))), (1, .box 1 0)]) (fun _ => [(1, [.bool false, .slice a1 t.heads.length c1, .slice a2 t.slots.length c2, .int .i64 t.next, .int .i64 t.count])])
      (fun i h' => i ≤ t.slots.length ∧ Ext h h' ∧ preP t i ∧ preK t i) (fun i => t.slots.length - i) 0 ⟨Nat.zero_le _, em1, preP.zero t, preK.zero t⟩ (by repeat (first | exact wkF_e | refine wkF_c rfl ?_)) (wkB_c rfl wkB_e) rfl ?_
    rintro i h6 ⟨hi, e6, prp, pre⟩
    have hi : i ≤ t.slots.length := hi
    have e6 : Ext h h6 := e6
    have prp : preP t i := prp
    have pre : preK t i := pre
    try simp only [go_sem, Nat.reduceBEq]
    refine Br.intro (fun hb => ?_) (fun hb => ?_) <;> (try simp only [hb, go_sem, Nat.reduceBEq])
    · have hb : i < t.slots.length := by simpa using hb
      obtain ⟨b2, off2, rfl, hat2'⟩ := hat2 (by omega)
      obtain ⟨e, he, hm⟩ := get_lt hb
      have wsu := wrap_succ (i := i) (by omega)
      have hln := liveN_take t.slots i
      have hln2 := liveN_le t.slots
      have wnu := wrap_succ (i := liveN (t.slots.take i)) (by omega)
      have hsk := hks e hm
      simp only [ix_nat hb, go_sem, Nat.reduceBEq]
      refine hsem_slotB e6 tyS134 hat2' hr2 he rfl fun s2 rd2 => ?_
      obtain ⟨a5, c5, _, rfl, _⟩ := rd2.rows (by decide) e.val.items.length (fm_len edt_len _)
      have kd : decide (e.key.text = false ∧ e.key.num = ((i : Nat) : Int) ∧ e.key.str = ⟨#[]⟩) = decide (e.key = ⟨false, (i : Nat), ⟨#[]⟩⟩) := key_dec e.key ⟨false, (i : Nat), ⟨#[]⟩⟩
      simp only [kd, keyT40, go_sem, Nat.reduceBEq, Nat.reduceAdd, Nat.reduceLeDiff]
      by_cases hq : e.key = ⟨false, (i : Nat), ⟨#[]⟩⟩
      case neg =>
        simp only [decide_eq_false hq, Bool.not_false, go_sem, Nat.reduceBEq]
        exact ⟨by rw [noTab fun w => hq ((w.packed ht).2.2.2 i e he).1], e6⟩
      simp only [decide_eq_true hq, Bool.not_true, go_sem, Nat.reduceBEq, Nat.reduceAdd, Nat.reduceLeDiff]
      refine (sIsKey e.key _ (by omega)).mono ?_
      rintro _ h7 ⟨rfl, e7⟩
      have e67 := e6.trans e7
      cases hko : keyOk e.key with
      | false =>
        try simp only [go_sem, Nat.reduceBEq]
        exact ⟨by rw [noTab fun w => by have := (w.keys i e he).1; rw [hko] at this; cases this], e67⟩
      | true =>
      by_cases hlk : e.link = -1
      case neg =>
        simp only [decide_eq_false hlk, Bool.not_false, go_sem, Nat.reduceBEq]
        exact ⟨by rw [noTab fun w => hlk ((w.packed ht).2.2.2 i e he).2], e67⟩
      have kt : e.key.text = false := by rw [hq]
      by_cases hnn : t.next ≤ e.key.num
      · simp only [decide_eq_true hlk, Bool.not_true, kt, decide_eq_true hnn, go_sem, Nat.reduceBEq]
        exact ⟨by rw [noTab fun w => by have := (w.keys i e he).2.1; rw [kt] at this; simp at this; omega], e67⟩
      have hkx : e.key.text = true ∨ e.key.num < t.next := .inr (by omega)
      cases hlw : e.live with
      | true =>
        have hzo : e.live = true ∨ e.val.isZero = true := .inl hlw
        simp only [decide_eq_true hlk, Bool.not_true, kt, decide_eq_false hnn, go_sem, Nat.reduceBEq]
        have hdd : e.live = true → e.key ∉ liveK (t.slots.take i) := fun _ hm => by
          obtain ⟨j, u, hj, hu, _, eu⟩ := mem_liveK.1 hm
          rw [(prp j u hj hu).1, hq] at eu
          simp only [Ky.mk.injEq] at eu
          omega
        refine aloop (ι := Unit) (fun _ => (11, .val (.int .i64 0)) :: (8, .box 8 0) :: [(7, .val (.int .i64 (i : Nat))), (5, .val (.slice (some ⟨bo, 0, none⟩) t.heads.length t.heads.length)), (3, .val (.int .i64 (t.heads.length : Nat))), (4, .val (.int .i64 (liveN (t.slots.take i) : Nat))), (1, .box 1 0)]) (fun _ => [(8, [.bool false, .int .i64 e.key.num, .string e.key.str, .int .i64 e.val.kind, .int .i64 e.val.num, .string e.val.str, .int .i64 e.val.next, .slice a5 e.val.items.length c5, .bool true, .int .i64 e.link]), (1, [.bool false, .slice a1 t.heads.length c1, .slice (some ⟨b2, off2, none⟩) t.slots.length c2, .int .i64 t.next, .int .i64 t.count])]) (fun _ h' => h7 = h') (fun _ => 0) () rfl (by repeat (first | exact wkF_e | refine wkF_c rfl ?_)) (wkB_c rfl (wkB_c rfl wkB_e)) rfl ?_
        rintro _ _ rfl
        simp only [wnu, wsu, go_sem, Nat.reduceBEq, Nat.reduceEqDiff]
        have hln3 : liveN (t.slots.take (i + 1)) = liveN (t.slots.take i) + 1 := by rw [liveN_snoc he, hlw]; rfl
        refine Again.intro (i + 1) (by first | omega | (simp only; omega)) ⟨hb, e67, prp.step he ⟨hq, hlk⟩, pre.step he ⟨hko, hkx, hzo⟩ hdd⟩ (by simp only [hln3]; exact (by repeat (first | exact wkF_e | refine wkF_c rfl ?_))) (wkB_c rfl wkB_e) rfl
      | false =>
        simp only [decide_eq_true hlk, Bool.not_true, kt, decide_eq_false hnn, go_sem, Nat.reduceBEq, Nat.reduceAdd, Nat.reduceLeDiff]
        (refine (sZero e.val _ _ (rd2.mono e67)).mono ?_; rintro _ _ ⟨rfl, rfl⟩; simp only [go_sem, Nat.reduceBEq])
        cases hz : e.val.isZero with
        | false =>
          try simp only [go_sem, Nat.reduceBEq]
          exact ⟨by rw [noTab fun w => by have := (w.keys i e he).2.2; rw [hlw, hz] at this; simp at this], e67⟩
        | true =>
          have hzo : e.live = true ∨ e.val.isZero = true := .inr hz
          try simp only [go_sem]
          have hdd : e.live = true → e.key ∉ liveK (t.slots.take i) := fun _ hm => by
            obtain ⟨j, u, hj, hu, _, eu⟩ := mem_liveK.1 hm
            rw [(prp j u hj hu).1, hq] at eu
            simp only [Ky.mk.injEq] at eu
            omega
          refine aloop (ι := Unit) (fun _ => (11, .val (.int .i64 0)) :: (8, .box 8 0) :: [(7, .val (.int .i64 (i : Nat))), (5, .val (.slice (some ⟨bo, 0, none⟩) t.heads.length t.heads.length)), (3, .val (.int .i64 (t.heads.length : Nat))), (4, .val (.int .i64 (liveN (t.slots.take i) : Nat))), (1, .box 1 0)]) (fun _ => [(8, [.bool false, .int .i64 e.key.num, .string e.key.str, .int .i64 e.val.kind, .int .i64 e.val.num, .string e.val.str, .int .i64 e.val.next, .slice a5 e.val.items.length c5, .bool false, .int .i64 e.link]), (1, [.bool false, .slice a1 t.heads.length c1, .slice (some ⟨b2, off2, none⟩) t.slots.length c2, .int .i64 t.next, .int .i64 t.count])]) (fun _ h' => h7 = h') (fun _ => 0) () rfl (by repeat (first | exact wkF_e | refine wkF_c rfl ?_)) (wkB_c rfl (wkB_c rfl wkB_e)) rfl ?_
          rintro _ _ rfl
          simp only [wsu, go_sem, Nat.reduceBEq, Nat.reduceEqDiff]
          have hln3 : liveN (t.slots.take (i + 1)) = liveN (t.slots.take i) := by rw [liveN_snoc he, hlw]; rfl
          refine Again.intro (i + 1) (by first | omega | (simp only; omega)) ⟨hb, e67, prp.step he ⟨hq, hlk⟩, pre.step he ⟨hko, hkx, hzo⟩ hdd⟩ (by simp only [hln3]; exact (by repeat (first | exact wkF_e | refine wkF_c rfl ?_))) (wkB_c rfl wkB_e) rfl
    · have hb : i = t.slots.length := by simp at hb; omega
      subst hb
      rw [List.take_length]
      try simp only [go_sem, Nat.reduceBEq, Nat.reduceAdd, Nat.reduceLeDiff, Nat.reduceEqDiff, Int.reduceEq, not_false_eq_true, Int.reduceToNat]
      refine aloop (ι := Unit) (fun _ => [(12, .val (.int .i64 0)), (3, .val (.int .i64 (t.heads.length : Nat))), (4, .val (.int .i64 (liveN t.slots : Nat))), (1, .box 1 0)]) (fun _ => [(1, [.bool false, .slice a1 t.heads.length c1, .slice a2 t.slots.length c2, .int .i64 t.next, .int .i64 t.count])])
        (fun _ h' => h6 = h') (fun _ => 0) () rfl (by repeat (first | exact wkF_e | refine wkF_c rfl ?_)) (wkB_c rfl wkB_e) rfl ?_
      rintro _ _ rfl
      simp only [decide_eq_false (show ¬ (0 : Int) < ((t.heads.length : Nat) : Int) by omega), go_sem, Nat.reduceBEq]
      refine ⟨?_, e6⟩
      by_cases hcn : ((liveN t.slots : Nat) : Int) = t.count
      · rw [decide_eq_true hcn, yesTab (wf_packed ht hnx pre hcn.symm q1 (by omega) (by omega) prp)]
      · rw [decide_eq_false hcn, noTab fun w => hcn w.cnt.symm]
end Go.Proofs.YtedfplodobpgfaaGreatDoor
namespace Go.Proofs.YtedfplodobpgfaaGreatDoor
set_option maxRecDepth 8000
open Go Go.Sx
/-- what blockWeight does -/
def Weighed (l : List Bk) (bw cw : Nat) (h0 : Hp) (ws : List Int) (i : Nat) (u : Value) (h' : Hp) : Prop := ∃ (n : Nat) (us : List Int), u = .int .i64 (n : Nat) ∧ Est l i n ∧ us.length = ws.length ∧ wInv l us ∧ wGrow ws us ∧ My h0 h' [(.row 1 (us.flatMap idt), .slice (some ⟨bw, 0, none⟩) l.length cw)]
def WeighI (l : List Bk) (a : Option Addr) (c bw cw : Nat) (h0 : Hp) (z : Nat) : Prop := ∀ (ws : List Int) (i : Nat) (h : Hp), zer ws ≤ z → wInv l ws → wPath l ws i → i < l.length → My h0 h [(.row 1 (ws.flatMap idt), .slice (some ⟨bw, 0, none⟩) l.length cw)] →
  ACalls Tryz.prog 139 #[.agg #[.slice a l.length c], .int .i64 (i : Nat), .slice (some ⟨bw, 0, none⟩) l.length cw] h (Weighed l bw cw h0 ws i)
theorem iWeigh (l : List Bk) (hb : szG Bk.bulk l ≤ 1099511627776) (hin : inR l) (a : Option Addr) (c bw cw : Nat) (h0 : Hp) (r : RdB h0 l (.slice a l.length c)) : ∀ z, WeighI l a c bw cw h0 z := fun z => Nat.strongRecOn z fun z ih ws i h hz wi wp hil m => by
  have hlen := szG_len (w := Bk.bulk) l
  obtain ⟨a1, c1, xs1, e1, hc1, hr1, hat1⟩ := r.rows (by decide) l.length (fm_len Bk.dt_len _)
  cases e1
  obtain ⟨b1, o1, rfl, hat1'⟩ := hat1 (by omega)
  have hwl := wi.len
  obtain ⟨x, hx, _⟩ := get_lt (l := ws) (i := i) (by omega)
  have hlow := wi.low i x hx
  obtain ⟨ys, hry, haty⟩ := m.at_
  have hi1 : i < l.length := hil
  (refine enter Tryz.func139 rfl rfl (by kernel_rfl) [] ?_; simp only [go_sem, Nat.reduceBEq])
  simp only [ix_nat hi1, go_sem, Nat.reduceBEq]
  refine hsem_num tyS3 (haty (by omega)) hry hx (by omega) ?_
  by_cases h0x : x = 0
  case neg =>
    simp only [decide_eq_false h0x, Bool.not_false, ix_nat hi1, go_sem, Nat.reduceBEq]
    refine hsem_num tyS3 (haty (by omega)) hry hx (by omega) ?_
    by_cases hn : x < 0
    · have hx1 : x = -1 := by omega
      subst hx1
      simp only [go_sem, Nat.reduceBEq]
      exact ⟨201, ws, rfl, Est.loop wp hx, rfl, wi, wGrow.refl ws, m⟩
    · simp only [decide_eq_false hn, ix_nat hi1, go_sem, Nat.reduceBEq]
      refine hsem_num tyS3 (haty (by omega)) hry hx (by omega) ?_
      simp only [go_sem, Nat.reduceBEq]
      exact ⟨x.toNat, ws, by rw [show ((x.toNat : Nat) : Int) = x by omega], wi.est i x hx (by omega), rfl, wi, wGrow.refl ws, m⟩
  subst h0x
  have hzs := zer_set (x := -1) hx (by decide)
  simp only [Bool.not_true, ix_nat hi1, go_sem, Nat.reduceBEq]
  obtain ⟨cn, hn, en⟩ := hold_num (es := ws) (b := bw) (cap := cw) (i := i) (by omega)
  rw [hwl] at hn
  obtain ⟨w, hw⟩ := hold_self (es := ws) (i := i) (by omega)
  refine hn.put1 (h0 := h0) (d := .raw (.int .i64 w)) tyS3 rfl rfl (by rw [en, hw]; exact m) (by omega) fun h5 m5 => ?_
  rw [en] at m5
  have hbk := blk_at hil
  have hsb := slots_bulk hbk
  obtain ⟨hsl, hsv⟩ := tab_slots (blk l i).tab
  simp only [ix_nat hi1, go_sem, Nat.reduceBEq, Nat.reduceAdd]
  refine hpure_base m5.ext (hsem_bslots tyS34 hat1' hr1 hbk (by omega) fun u ru => ?_)
  obtain ⟨a2, c2, xs2, rfl, hc2, hr2, hat2⟩ := ru.rows (by decide) (blk l i).tab.slots.length (fm_len Sl.dt_len _)
  simp only [go_sem, Nat.reduceBEq]
  refine aloop (ι := Nat × Nat × List Int) (fun x => [(35, .val (.int .i64 (x.1 : Nat))), (34, .val (.int .i64 ((blk l i).tab.slots.length : Nat))), (33, .val (.slice a2 (blk l i).tab.slots.length c2)), (7, .val (.int .i64 (x.2.1 : Nat))), (2, .val (.slice (some ⟨bw, 0, none⟩) l.length cw)), (1, .val (.int .i64 (i : Nat))), (3, .box 3 0)])
    (fun _ => [(3, [.slice (some ⟨b1, o1, none⟩) l.length c])])
    (fun x h' => x.1 ≤ (blk l i).tab.slots.length ∧ EstS l ((blk l i).tab.slots.take x.1) x.2.1 ∧ x.2.2.length = ws.length ∧ wInv l x.2.2 ∧ wGrow (ws.set i (-1)) x.2.2 ∧ My h0 h' [(.row 1 (x.2.2.flatMap idt), .slice (some ⟨bw, 0, none⟩) l.length cw)]) (fun x => (blk l i).tab.slots.length - x.1) (0, 1, ws.set i (-1))
    ⟨Nat.zero_le _, EstS.nil l, List.length_set, wi.mark, wGrow.refl _, m5⟩ (by repeat (first | exact wkF_e | refine wkF_c rfl ?_)) (wkB_c rfl wkB_e) rfl ?_
  rintro ⟨k, n, us⟩ h6 ⟨hk, es, ul, ui, ug, m6⟩
  have hk : k ≤ (blk l i).tab.slots.length := hk
  have es : EstS l ((blk l i).tab.slots.take k) n := es
  have ul : us.length = ws.length := ul
  have ui : wInv l us := ui
  have ug : wGrow (ws.set i (-1)) us := ug
  have m6 : My h0 h6 [(.row 1 (us.flatMap idt), .slice (some ⟨bw, 0, none⟩) l.length cw)] := m6
  have hn1 := es.pos
  have hn2 := es.cap
  simp only [go_sem, Nat.reduceBEq]
  refine Br.intro (fun hb => ?_) (fun hb => ?_) <;> (try simp only [hb, go_sem, Nat.reduceBEq])
  · have hb : k < (blk l i).tab.slots.length := by simpa using hb
    obtain ⟨b2, o2, rfl, hat2'⟩ := hat2 (by omega)
    obtain ⟨e, he, hm⟩ := get_lt hb
    have wsu := wrap_succ (i := k) (by omega)
    simp only [ix_nat hb, go_sem, Nat.reduceBEq]
    refine hsem_slot tyS134 (hat2'.mono m6.ext) (hr2.mono m6.ext) he rfl fun s2 rd2 => ?_
    obtain ⟨a5, c5, _, rfl, _⟩ := rd2.rows (by decide) e.val.items.length (fm_len edt_len _)
    cases hv : e.live with
    | false =>
      simp only [wsu, Bool.not_false, go_sem, Nat.reduceBEq, Nat.reduceAdd, Nat.reduceLeDiff, Nat.reduceEqDiff]
      exact Again.intro (k + 1, n, us) (by first | omega | (simp only; omega)) ⟨hb, es.skip he hv, ul, ui, ug, m6⟩ (by repeat (first | exact wkF_e | refine wkF_c rfl ?_)) (wkB_c rfl wkB_e) rfl
    | true =>
    simp only [Bool.not_true, go_sem, Nat.reduceBEq, Nat.reduceAdd, Nat.reduceLeDiff]
    by_cases h5 : e.val.kind = 5
    · have hh := hin i _ hbk k e he hv
      obtain ⟨q1, q2, q3⟩ := held_num hh h5
      have hen : e.val.num = ((e.val.num.toNat : Nat) : Int) := by omega
      simp only [decide_eq_true h5, go_sem, Nat.reduceBEq, Nat.reduceAdd, Nat.reduceLeDiff]
      try simp only [go_sem, Nat.reduceBEq, Nat.reduceAdd, Nat.reduceLeDiff, Nat.reduceEqDiff, Int.reduceEq, not_false_eq_true, Int.reduceToNat]
      rw [hen]
      refine (ih (zer (ws.set i (-1))) (by omega) us e.val.num.toNat h6 (zer_grow (by rw [ul, List.length_set]) ug) ui (wp.kid (by omega) hx ug he hv h5 ul) q2 m6).mono ?_
      rintro _ h7 ⟨n2, vs, rfl, est, vl, vi, vg, m7⟩
      have p1 := est.pos
      have p2 := est.cap
      have hws : IntKind.i64.wrap ((n : Int) + (n2 : Int)) = ((n + n2 : Nat) : Int) := by rw [IntWalk.i64_in _ (by omega)]; omega
      simp only [hws, go_sem, Nat.reduceBEq]
      (refine (iMin _ _ _).mono ?_; rintro _ _ ⟨rfl, rfl⟩; simp only [go_sem, Nat.reduceBEq])
      rw [show min (((n + n2 : Nat) : Int)) 201 = ((min (n + n2) 201 : Nat) : Int) by omega]
      simp only [wsu, go_sem]
      exact Again.intro (k + 1, min (n + n2) 201, vs) (by first | omega | (simp only; omega)) ⟨hb, es.kid he hv h5 est, by rw [vl, ul], vi, ug.trans vg, m7⟩ (by repeat (first | exact wkF_e | refine wkF_c rfl ?_)) (wkB_c rfl wkB_e) rfl
    · simp only [decide_eq_false h5, go_sem, Nat.reduceBEq]
      try simp only [go_sem, Nat.reduceBEq, Nat.reduceAdd, Nat.reduceLeDiff, Nat.reduceEqDiff, Int.reduceEq, not_false_eq_true, Int.reduceToNat]
      have hws : IntKind.i64.wrap ((n : Int) + 1) = ((n + 1 : Nat) : Int) := by rw [IntWalk.i64_in _ (by omega)]; omega
      simp only [hws, go_sem]
      (refine (iMin _ _ _).mono ?_; rintro _ _ ⟨rfl, rfl⟩; simp only [go_sem, Nat.reduceBEq])
      rw [show min (((n + 1 : Nat) : Int)) 201 = ((min (n + 1) 201 : Nat) : Int) by omega]
      simp only [wsu, go_sem]
      exact Again.intro (k + 1, min (n + 1) 201, us) (by first | omega | (simp only; omega)) ⟨hb, es.one he hv h5, ul, ui, ug, m6⟩ (by repeat (first | exact wkF_e | refine wkF_c rfl ?_)) (wkB_c rfl wkB_e) rfl
  · have hb : k = (blk l i).tab.slots.length := by simp at hb; omega
    subst hb
    rw [List.take_length] at es
    have est := es.est
    obtain ⟨cn, hn, en⟩ := hold_num (es := us) (b := bw) (cap := cw) (i := i) (by omega)
    rw [show us.length = l.length by omega] at hn
    obtain ⟨w, hw⟩ := hold_self (es := us) (i := i) (by omega)
    simp only [ix_nat hi1, go_sem, Nat.reduceBEq]
    refine hn.put1 (h0 := h0) (d := .raw (.int .i64 w)) tyS3 rfl rfl (by rw [en, hw]; exact m6) (by omega) fun h8 m8 => ?_
    rw [en] at m8
    simp only [go_sem, Nat.reduceBEq]
    exact ⟨n, us.set i (n : Nat), rfl, est, by rw [List.length_set, ul], ui.done est, ug.done hx ul est.pos, m8⟩
theorem bk_neg {l : List Bk} {i : Nat} {b : Bk} (hb : l[i]? = some b) (h : bkOk l b = false) : heapB l = false := noHeap fun k => by
  have := k.blk i b hb
  rw [h] at this
  cases this
/-- the live slots' values are held, so far -/
def preS (l : List Bk) (ss : List Sl) (k : Nat) : Prop := ∀ (j : Nat) (s : Sl), j < k → ss[j]? = some s → s.live = true → isHeld l s.val = true
theorem preS.step {l : List Bk} {ss : List Sl} {k : Nat} {s : Sl} (p : preS l ss k) (hs : ss[k]? = some s) (h : s.live = true → isHeld l s.val = true) : preS l ss (k + 1) := fun j u hj hu hl => by
  by_cases he : j = k
  · subst he
    rw [hs] at hu
    cases hu
    exact h hl
  · exact p j u (by omega) hu hl
/-- the blocks are right, so far -/
def preB (l : List Bk) (i : Nat) : Prop := ∀ (j : Nat) (b : Bk), j < i → l[j]? = some b → bkOk l b = true
theorem preB.step {l : List Bk} {i : Nat} {b : Bk} (p : preB l i) (hb : l[i]? = some b) (h : bkOk l b = true) : preB l (i + 1) := fun j u hj hu => by
  by_cases he : j = i
  · subst he
    rw [hb] at hu
    cases hu
    exact h
  · exact p j u (by omega) hu
theorem preB.inR {l : List Bk} (p : preB l l.length) : inR l ∧ ∀ (i : Nat) (b : Bk), l[i]? = some b → 0 ≤ b.count := by
  refine ⟨fun i b hb k s hs hl => ?_, fun i b hb => ?_⟩
  · have := p i b (lt_of_get hb) hb
    by_cases hc : b.count = 0
    · rw [bkOk_free hc] at this
      rw [free_slots this] at hs
      simp at hs
    · exact ((bkOk_live hc).1 this).2.2 k s hs hl
  · have := p i b (lt_of_get hb) hb
    by_cases hc : b.count = 0
    · omega
    · have := ((bkOk_live hc).1 this).1
      omega
set_option maxHeartbeats 1600000 in
theorem iIsHeap (l : List Bk) (hb : szG Bk.bulk l ≤ 1048576) (s : Value) (h : Hp) (r : RdB h l s) (hE : Env h) : ACalls Tryz.prog 79 #[.agg #[s]] h (Is (.bool (heapB l)) h) := by
  have hlen := szG_len (w := Bk.bulk) l
  obtain ⟨a1, c1, xs1, rfl, hc1, hr1, hat1⟩ := r.rows (by decide) l.length (fm_len Bk.dt_len _)
  (refine enter Tryz.func79 rfl rfl (by kernel_rfl) [] ?_; simp only [go_sem, Nat.reduceBEq])
  refine aloop (ι := Nat) (fun i => [(13, .val (.int .i64 (i : Nat))), (12, .val (.int .i64 (l.length : Nat))), (11, .val (.slice a1 l.length c1)), (1, .box 1 0)]) (fun _ => [(1, [.slice a1 l.length c1])])
    (fun i h' => i ≤ l.length ∧ Ext h h' ∧ preB l i) (fun i => l.length - i) 0 ⟨Nat.zero_le _, Ext.refl _, fun j b hj => by omega⟩ (by repeat (first | exact wkF_e | refine wkF_c rfl ?_)) (wkB_c rfl wkB_e) rfl ?_
  rintro i h1 ⟨hi, e1, pb⟩
  have hi : i ≤ l.length := hi
  have pb : preB l i := pb
  try simp only [go_sem, Nat.reduceBEq]
  refine Br.intro (fun hq => ?_) (fun hq => ?_) <;> (try simp only [hq, go_sem, Nat.reduceBEq])
  · have hq : i < l.length := by simpa using hq
    obtain ⟨b1, o1, rfl, hat1'⟩ := hat1 (by omega)
    obtain ⟨b, hbk, hm⟩ := get_lt hq
    have hsb := slots_bulk hbk
    obtain ⟨hsl, hsv⟩ := tab_slots b.tab
    have wsu := wrap_succ (i := i) (by omega)
    simp only [ix_nat hq, go_sem, Nat.reduceBEq]
    refine hsem_blk tyS107 (hat1'.mono e1) (hr1.mono e1) hbk rfl fun s2 u2 rh ru => ?_
    obtain ⟨a3, c3, xs3, rfl, hc3, hr3, hat3⟩ := rh.rows (by decide) b.tab.heads.length (fm_len idt_len _)
    obtain ⟨a2, c2, xs2, rfl, hc2, hr2, hat2⟩ := ru.rows (by decide) b.tab.slots.length (fm_len Sl.dt_len _)
    by_cases h0 : b.count = 0
    · simp only [decide_eq_true h0, go_sem, Nat.reduceBEq, Nat.reduceAdd, Nat.reduceLeDiff]
      have hF : bkOk l b = b.free := bkOk_free h0
      cases hh : b.tab.hashed with
      | true =>
        simp only [go_sem, Nat.reduceBEq]
        exact ⟨by rw [bk_neg hbk (by rw [hF]; unfold Bk.free; rw [hh]; rfl)], e1⟩
      | false =>
      by_cases q1 : b.tab.heads.length = 0
      case neg =>
        simp only [decide_eq_true (show (0 : Int) < ((b.tab.heads.length : Nat) : Int) by omega), go_sem, Nat.reduceBEq, Nat.reduceAdd]
        exact ⟨by rw [bk_neg hbk (by rw [hF]; unfold Bk.free; rw [hh, decide_eq_false q1]; rfl)], e1⟩
      by_cases q2 : b.tab.slots.length = 0
      case neg =>
        simp only [decide_eq_false (show ¬ (0 : Int) < ((b.tab.heads.length : Nat) : Int) by omega), decide_eq_true (show (0 : Int) < ((b.tab.slots.length : Nat) : Int) by omega), go_sem, Nat.reduceBEq, Nat.reduceAdd]
        exact ⟨by rw [bk_neg hbk (by rw [hF]; unfold Bk.free; rw [hh, decide_eq_true q1, decide_eq_false q2]; rfl)], e1⟩
      by_cases q3 : b.tab.next = 0
      case neg =>
        simp only [decide_eq_false (show ¬ (0 : Int) < ((b.tab.heads.length : Nat) : Int) by omega), decide_eq_false (show ¬ (0 : Int) < ((b.tab.slots.length : Nat) : Int) by omega), decide_eq_false q3, Bool.not_false, go_sem, Nat.reduceBEq, Nat.reduceAdd]
        exact ⟨by rw [bk_neg hbk (by rw [hF]; unfold Bk.free; rw [hh, decide_eq_true q1, decide_eq_true q2, decide_eq_false q3]; rfl)], e1⟩
      by_cases q4 : b.tab.count = 0
      case neg =>
        simp only [decide_eq_false (show ¬ (0 : Int) < ((b.tab.heads.length : Nat) : Int) by omega), decide_eq_false (show ¬ (0 : Int) < ((b.tab.slots.length : Nat) : Int) by omega), decide_eq_true q3, decide_eq_false q4, Bool.not_true, Bool.not_false, go_sem, Nat.reduceBEq, Nat.reduceAdd]
        exact ⟨by rw [bk_neg hbk (by rw [hF]; unfold Bk.free; rw [hh, decide_eq_true q1, decide_eq_true q2, decide_eq_true q3, decide_eq_false q4]; rfl)], e1⟩
      simp only [decide_eq_false (show ¬ (0 : Int) < ((b.tab.heads.length : Nat) : Int) by omega), decide_eq_false (show ¬ (0 : Int) < ((b.tab.slots.length : Nat) : Int) by omega), decide_eq_true q3, decide_eq_true q4, Bool.not_true, wsu, go_sem, Nat.reduceBEq, Nat.reduceAdd, Nat.reduceEqDiff]
      exact Again.intro (i + 1) (by first | omega | (simp only; omega)) ⟨hq, e1, pb.step hbk (by rw [hF]; unfold Bk.free; rw [hh, decide_eq_true q1, decide_eq_true q2, decide_eq_true q3, decide_eq_true q4]; rfl)⟩ (by repeat (first | exact wkF_e | refine wkF_c rfl ?_)) (wkB_c rfl wkB_e) rfl
    have hL := bkOk_live (l := l) h0
    simp only [decide_eq_false h0, go_sem, Nat.reduceBEq, Nat.reduceAdd, Nat.reduceLeDiff]
    (refine (iInRange _ _ _ _).mono ?_; rintro _ _ ⟨rfl, rfl⟩; simp only [go_sem, Nat.reduceBEq])
    by_cases q0 : 1 ≤ b.count ∧ b.count ≤ 1000000000000
    case neg =>
      simp only [decide_eq_false q0, Bool.not_false, go_sem, Nat.reduceBEq]
      exact ⟨by rw [bk_neg hbk (Bool.eq_false_iff.2 fun k => q0 (hL.1 k).1)], e1⟩
    simp only [decide_eq_true q0, Bool.not_true, go_sem, Nat.reduceBEq, Nat.reduceAdd, Nat.reduceLeDiff]
    refine (iIsTable b.tab (by omega) _ _ _ rh ru (hE.ext e1)).mono ?_
    rintro _ h2 ⟨rfl, e12⟩
    have e2 := e1.trans e12
    cases hT : b.tab.isTab with
    | false =>
      try simp only [go_sem, Nat.reduceBEq]
      exact ⟨by rw [bk_neg hbk (Bool.eq_false_iff.2 fun k => by have := (hL.1 k).2.1; rw [hT] at this; cases this)], e2⟩
    | true =>
    try simp only [go_sem, Nat.reduceBEq, Nat.reduceAdd]
    refine aloop (ι := Nat) (fun k => [(63, .val (.int .i64 (k : Nat))), (62, .val (.int .i64 (b.tab.slots.length : Nat))), (61, .val (.slice a2 b.tab.slots.length c2)), (13, .val (.int .i64 (i : Nat))), (12, .val (.int .i64 (l.length : Nat))), (11, .val (.slice (some ⟨b1, o1, none⟩) l.length c1)), (1, .box 1 0)]) (fun _ => [(1, [.slice (some ⟨b1, o1, none⟩) l.length c1])])
      (fun k h' => k ≤ b.tab.slots.length ∧ Ext h1 h' ∧ preS l b.tab.slots k) (fun k => b.tab.slots.length - k) 0 ⟨Nat.zero_le _, e12, fun j b hj => by omega⟩ (by repeat (first | exact wkF_e | refine wkF_c rfl ?_)) (wkB_c rfl wkB_e) rfl ?_
    rintro k h3 ⟨hk, e13, ps⟩
    have hk : k ≤ b.tab.slots.length := hk
    have ps : preS l b.tab.slots k := ps
    have e3 := e1.trans e13
    try simp only [go_sem, Nat.reduceBEq]
    refine Br.intro (fun hkb => ?_) (fun hkb => ?_) <;> (try simp only [hkb, go_sem, Nat.reduceBEq, Nat.reduceEqDiff])
    · have hkb : k < b.tab.slots.length := by simpa using hkb
      obtain ⟨b2, o2, rfl, hat2'⟩ := hat2 (by omega)
      obtain ⟨e, he, hme⟩ := get_lt hkb
      have hve := hsv e hme
      have wsk := wrap_succ (i := k) (by omega)
      simp only [ix_nat hkb, go_sem, Nat.reduceBEq]
      refine hsem_slot tyS134 (hat2'.mono e13) (hr2.mono e13) he rfl fun s3 rd3 => ?_
      obtain ⟨a5, c5, _, rfl, _⟩ := rd3.rows (by decide) e.val.items.length (fm_len edt_len _)
      cases hv : e.live with
      | false =>
        simp only [wsk, go_sem, Nat.reduceBEq, Nat.reduceAdd, Nat.reduceLeDiff]
        exact Again.intro (k + 1) (by first | omega | (simp only; omega)) ⟨hkb, e13, ps.step he fun q => (by rw [hv] at q; cases q)⟩ (by repeat (first | exact wkF_e | refine wkF_c rfl ?_)) (wkB_c rfl wkB_e) rfl
      | true =>
        try simp only [go_sem, Nat.reduceBEq, Nat.reduceAdd, Nat.reduceLeDiff]
        refine (iIsHeld l e.val (by omega) (by omega) _ _ _ (r.mono e3) rd3 (hE.ext e3)).mono ?_
        rintro _ h4 ⟨rfl, e34⟩
        cases hhd : isHeld l e.val with
        | false =>
          try simp only [go_sem, Nat.reduceBEq]
          exact ⟨by rw [bk_neg hbk (Bool.eq_false_iff.2 fun q => by have := (hL.1 q).2.2 k e he hv; rw [hhd] at this; cases this)], e3.trans e34⟩
        | true =>
          simp only [wsk, go_sem, Nat.reduceBEq]
          exact Again.intro (k + 1) (by first | omega | (simp only; omega)) ⟨hkb, e13.trans e34, ps.step he fun _ => hhd⟩ (by repeat (first | exact wkF_e | refine wkF_c rfl ?_)) (wkB_c rfl wkB_e) rfl
    · have hkb : k = b.tab.slots.length := by simp at hkb; omega
      subst hkb
      simp only [wsu, go_sem]
      exact Again.intro (i + 1) (by first | omega | (simp only; omega)) ⟨hq, e3, pb.step hbk (hL.2 ⟨q0, hT, fun k s hs hl => ps k s (lt_of_get hs) hs hl⟩)⟩ (by repeat (first | exact wkF_e | refine wkF_c rfl ?_)) (wkB_c rfl wkB_e) rfl
  · have hq : i = l.length := by simp at hq; omega
    subst hq
    obtain ⟨hin, hcz⟩ := pb.inR
    try simp only [go_sem, Nat.reduceBEq, Nat.reduceAdd, Nat.reduceLeDiff, Nat.reduceEqDiff, Int.reduceEq, not_false_eq_true, Int.reduceToNat]
    refine hsem_my_make slT22 (by decide) rfl rfl (by omega) (by decide) (My.nil (Ext.refl h1)) fun bo h2 m2 => ?_
    have m2 : My h1 h2 [(.row 1 (zeros [.int .i64 0] l.length), .slice (some ⟨bo, 0, none⟩) l.length l.length)] := m2
    rw [zeros_int] at m2
    try simp only [go_sem, Nat.reduceBEq]
    refine aloop (ι := Nat × List Int) (fun x => [(85, .val (.int .i64 (x.1 : Nat))), (84, .val (.int .i64 (l.length : Nat))), (83, .val (.slice a1 l.length c1)), (7, .val (.slice (some ⟨bo, 0, none⟩) l.length l.length)), (1, .box 1 0)]) (fun _ => [(1, [.slice a1 l.length c1])])
      (fun x h' => x.1 ≤ l.length ∧ wInv l x.2 ∧ nNeg x.2 ∧ (∀ j : Nat, j < x.1 → 0 < (blk l j).count → ∃ n, n ≤ 200 ∧ Wt l j n) ∧ My h1 h' [(.row 1 (x.2.flatMap idt), .slice (some ⟨bo, 0, none⟩) l.length l.length)]) (fun x => l.length - x.1) (0, List.replicate l.length 0)
      ⟨Nat.zero_le _, (wInv.zero l).1, (wInv.zero l).2, fun j hj => by omega, m2⟩ (by repeat (first | exact wkF_e | refine wkF_c rfl ?_)) (wkB_c rfl wkB_e) rfl ?_
    rintro ⟨i, ws⟩ h3 ⟨hi, wi, wn, wl, m3⟩
    have hi : i ≤ l.length := hi
    have wi : wInv l ws := wi
    have wn : nNeg ws := wn
    have wl : ∀ j : Nat, j < i → 0 < (blk l j).count → ∃ n, n ≤ 200 ∧ Wt l j n := wl
    have m3 : My h1 h3 [(.row 1 (ws.flatMap idt), .slice (some ⟨bo, 0, none⟩) l.length l.length)] := m3
    have e3 := e1.trans m3.ext
    try simp only [go_sem, Nat.reduceBEq]
    refine Br.intro (fun hq => ?_) (fun hq => ?_) <;> (try simp only [hq, go_sem, Nat.reduceBEq])
    · have hq : i < l.length := by simpa using hq
      have wsu := wrap_succ (i := i) (by omega)
      obtain ⟨b1, o1, rfl, hat1'⟩ := hat1 (by omega)
      have hbk := blk_at hq
      simp only [ix_nat hq, go_sem, Nat.reduceBEq]
      refine hsem_blk tyS107 (hat1'.mono e3) (hr1.mono e3) hbk rfl fun s2 u2 rh ru => ?_
      obtain ⟨a3, c3, xs3, rfl, hc3, hr3, hat3⟩ := rh.rows (by decide) (blk l i).tab.heads.length (fm_len idt_len _)
      obtain ⟨a2, c2, xs2, rfl, hc2, hr2, hat2⟩ := ru.rows (by decide) (blk l i).tab.slots.length (fm_len Sl.dt_len _)
      by_cases hc : 0 < (blk l i).count
      · simp only [decide_eq_true hc, go_sem, Nat.reduceBEq, Nat.reduceAdd, Nat.reduceLeDiff]
        try simp only [go_sem, Nat.reduceBEq, Nat.reduceAdd, Nat.reduceLeDiff, Nat.reduceEqDiff, Int.reduceEq, not_false_eq_true, Int.reduceToNat]
        refine (iWeigh l (by omega) hin (some ⟨b1, o1, none⟩) c1 bo l.length h1 (r.mono e1) _ ws i h3 (Nat.le_refl _) wi (wn.path i) hq m3).mono ?_
        rintro _ h4 ⟨n, us, rfl, est, ul, ui, ug, m4⟩
        by_cases hbig : n ≤ 200
        · simp only [decide_eq_false (show ¬ (200 : Int) < ((n : Nat) : Int) by omega), wsu, go_sem, Nat.reduceBEq]
          refine Again.intro (i + 1, us) (by first | omega | (simp only; omega)) ⟨hq, ui, wn.grow ul ug, fun j hj hcj => ?_, m4⟩ (by repeat (first | exact wkF_e | refine wkF_c rfl ?_)) (wkB_c rfl wkB_e) rfl
          by_cases he : j = i
          · subst he
            exact ⟨n, hbig, est.is hbig⟩
          · exact wl j (by omega) hcj
        · simp only [decide_eq_true (show (200 : Int) < ((n : Nat) : Int) by omega), go_sem, Nat.reduceBEq]
          refine ⟨?_, e1.trans m4.ext⟩
          rw [noHeap fun k => ?_]
          obtain ⟨m, hm, hw⟩ := k.light i _ hbk hc
          have h1 := est.cap
          have := est.big (by omega) m hw
          omega
      · simp only [decide_eq_false hc, wsu, go_sem, Nat.reduceBEq, Nat.reduceAdd, Nat.reduceLeDiff]
        refine Again.intro (i + 1, ws) (by first | omega | (simp only; omega)) ⟨hq, wi, wn, fun j hj hcj => ?_, m3⟩ (by repeat (first | exact wkF_e | refine wkF_c rfl ?_)) (wkB_c rfl wkB_e) rfl
        by_cases he : j = i
        · subst he
          exact absurd hcj hc
        · exact wl j (by omega) hcj
    · have hq : i = l.length := by simp at hq; omega
      subst hq
      try simp only [go_sem, Nat.reduceBEq, Nat.reduceAdd, Nat.reduceLeDiff, Nat.reduceEqDiff, Int.reduceEq, not_false_eq_true, Int.reduceToNat]
      refine ⟨?_, e3⟩
      rw [heapB_iff.2 ⟨fun i b hb => pb i b (lt_of_get hb) hb, fun i b hb hc => wl i (lt_of_get hb) (by rw [blk_get hb]; exact hc)⟩]
theorem sFree (_ : List Bk) (b : Bk) (s u : Value) (h : Hp) (r1 : RdI h b.tab.heads s) (r2 : RdT h b.tab.slots u) (h0 : b.count = 0) : ACalls Tryz.prog 136 #[.agg #[.int .i64 b.count, .bool b.tab.hashed, s, u, .int .i64 b.tab.next, .int .i64 b.tab.count]] h (Pu (.bool b.free) h) := by
  obtain ⟨a1, c1, xs1, rfl, hc1, hr1, hat1⟩ := r1.rows (by decide) b.tab.heads.length (fm_len idt_len _)
  obtain ⟨a2, c2, xs2, rfl, hc2, hr2, hat2⟩ := r2.rows (by decide) b.tab.slots.length (fm_len Sl.dt_len _)
  (refine enter Tryz.func136 rfl rfl (by kernel_rfl) [] ?_; simp only [go_sem, Nat.reduceBEq, Nat.reduceAdd, Nat.reduceLeDiff])
  unfold Bk.free
  cases hh : b.tab.hashed with
  | true =>
    simp only [decide_eq_true h0, Bool.not_true, Bool.false_and, go_sem, Nat.reduceBEq]
    exact ⟨rfl, rfl⟩
  | false =>
  by_cases q1 : b.tab.heads.length = 0
  case neg =>
    simp only [decide_eq_true h0, Bool.not_false, Bool.true_and, Bool.false_and, decide_eq_false q1, decide_eq_false (show ¬ ((b.tab.heads.length : Nat) : Int) = 0 by omega), go_sem, Nat.reduceBEq]
    exact ⟨rfl, rfl⟩
  by_cases q2 : b.tab.slots.length = 0
  case neg =>
    simp only [decide_eq_true h0, Bool.not_false, Bool.true_and, Bool.false_and, decide_eq_true q1, decide_eq_true (show ((b.tab.heads.length : Nat) : Int) = 0 by omega), decide_eq_false q2, decide_eq_false (show ¬ ((b.tab.slots.length : Nat) : Int) = 0 by omega), go_sem, Nat.reduceBEq]
    exact ⟨rfl, rfl⟩
  by_cases q3 : b.tab.next = 0
  case neg =>
    simp only [decide_eq_true h0, Bool.not_false, Bool.true_and, Bool.false_and, decide_eq_true q1, decide_eq_true (show ((b.tab.heads.length : Nat) : Int) = 0 by omega), decide_eq_true q2, decide_eq_true (show ((b.tab.slots.length : Nat) : Int) = 0 by omega), decide_eq_false q3, go_sem, Nat.reduceBEq]
    exact ⟨rfl, rfl⟩
  simp only [decide_eq_true h0, Bool.not_false, Bool.true_and, decide_eq_true q1, decide_eq_true (show ((b.tab.heads.length : Nat) : Int) = 0 by omega), decide_eq_true q2, decide_eq_true (show ((b.tab.slots.length : Nat) : Int) = 0 by omega), decide_eq_true q3, go_sem, Nat.reduceBEq]
  exact ⟨rfl, rfl⟩
/-- what is known of a block whose slots are summed up -/
def preW (l : List Bk) (w : List Int) (ss : List Sl) (k n : Nat) : Prop := (1 ≤ n ∧ SumR l (ss.take k) (n - 1)) ∨ (n = 0 ∧ ∃ (j : Nat) (s : Sl), ss[j]? = some s ∧ s.live = true ∧ s.val.kind = 5 ∧ w.getD s.val.num.toNat 0 = 0)
set_option maxHeartbeats 1600000 in
theorem sLight (l : List Bk) (hb : szG Bk.bulk l ≤ 1048576) (hin : inR l) (hcz : ∀ (i : Nat) (b : Bk), l[i]? = some b → 0 ≤ b.count) (s : Value) (h : Hp) (r : RdB h l s) : ACalls Tryz.prog 137 #[.agg #[s]] h (Is (.bool (lightB l)) h) := by
  have hlen := szG_len (w := Bk.bulk) l
  obtain ⟨a1, c1, xs1, rfl, hc1, hr1, hat1⟩ := r.rows (by decide) l.length (fm_len Bk.dt_len _)
  (refine enter Tryz.func137 rfl rfl (by kernel_rfl) [] ?_; simp only [go_sem, Nat.reduceBEq])
  refine hsem_my_make slT22 (by decide) rfl rfl (by omega) (by decide) (My.nil (Ext.refl h)) fun bo h2 m2 => ?_
  have m2 : My h h2 [(.row 1 (zeros [.int .i64 0] l.length), .slice (some ⟨bo, 0, none⟩) l.length l.length)] := m2
  rw [zeros_int] at m2
  try simp only [go_sem, Nat.reduceBEq]
  refine aloop (ι := Nat) (fun i => [(5, .val (.int .i64 (i : Nat))), (4, .val (.int .i64 (leftN l (List.replicate l.length 0) i : Nat))), (3, .val (.slice (some ⟨bo, 0, none⟩) l.length l.length)), (1, .box 1 0)]) (fun _ => [(1, [.slice a1 l.length c1])])
    (fun i h' => i ≤ l.length ∧ h' = h2) (fun i => l.length - i) 0 ⟨Nat.zero_le _, rfl⟩ (by repeat (first | exact wkF_e | refine wkF_c rfl ?_)) (wkB_c rfl wkB_e) rfl ?_
  rintro i _ ⟨hi, rfl⟩
  have hi : i ≤ l.length := hi
  have hll := leftN_le l (List.replicate l.length 0) i
  try simp only [go_sem, Nat.reduceBEq]
  refine Br.intro (fun hq => ?_) (fun hq => ?_) <;> (try simp only [hq, go_sem, Nat.reduceBEq])
  · have hq : i < l.length := by simpa using hq
    obtain ⟨b1, o1, rfl, hat1'⟩ := hat1 (by omega)
    have hbk := blk_at hq
    have wsu := wrap_succ (i := i) (by omega)
    simp only [ix_nat hq, go_sem, Nat.reduceBEq]
    refine hsem_bcnt tyS3 (hat1'.mono m2.ext) (hr1.mono m2.ext) hbk rfl ?_
    have hw := wrap_succ (i := leftN l (List.replicate l.length 0) i) (by omega)
    by_cases hc : 0 < (blk l i).count
    · have el : leftN l (List.replicate l.length 0) (i + 1) = leftN l (List.replicate l.length 0) i + 1 := by rw [leftN, if_pos ⟨hc, repl_getD _ _⟩]
      simp only [decide_eq_true hc, hw, wsu, go_sem, Nat.reduceBEq]
      exact Again.intro (i + 1) (by first | omega | (simp only; omega)) ⟨hq, rfl⟩ (by rw [el]; exact (by repeat (first | exact wkF_e | refine wkF_c rfl ?_))) (wkB_c rfl wkB_e) rfl
    · have el : leftN l (List.replicate l.length 0) (i + 1) = leftN l (List.replicate l.length 0) i := by rw [leftN, if_neg fun q => hc q.1, Nat.add_zero]
      simp only [decide_eq_false hc, wsu, go_sem, Nat.reduceBEq]
      exact Again.intro (i + 1) (by first | omega | (simp only; omega)) ⟨hq, rfl⟩ (by rw [el]; exact (by repeat (first | exact wkF_e | refine wkF_c rfl ?_))) (wkB_c rfl wkB_e) rfl
  have hq : i = l.length := by simp at hq; omega
  subst hq
  try simp only [go_sem, Nat.reduceBEq, Nat.reduceAdd, Nat.reduceLeDiff, Nat.reduceEqDiff, Int.reduceEq, not_false_eq_true, Int.reduceToNat]
  refine aloop (ι := Nat × List Int) (fun x => [(6, .val (.int .i64 (x.1 : Nat))), (4, .val (.int .i64 (leftN l x.2 l.length : Nat))), (3, .val (.slice (some ⟨bo, 0, none⟩) l.length l.length)), (1, .box 1 0)]) (fun _ => [(1, [.slice a1 l.length c1])])
    (fun x h' => x.1 ≤ 201 ∧ rInv l x.2 x.1 0 ∧ My h h' [(.row 1 (x.2.flatMap idt), .slice (some ⟨bo, 0, none⟩) l.length l.length)]) (fun x => 201 - x.1) (0, List.replicate l.length 0)
    ⟨Nat.zero_le _, rInv.zero l, m2⟩ (by repeat (first | exact wkF_e | refine wkF_c rfl ?_)) (wkB_c rfl wkB_e) rfl ?_
  rintro ⟨rd, w⟩ h3 ⟨hrd, ri, m3⟩
  have hrd : rd ≤ 201 := hrd
  have ri : rInv l w rd 0 := ri
  have m3 : My h h3 [(.row 1 (w.flatMap idt), .slice (some ⟨bo, 0, none⟩) l.length l.length)] := m3
  have hlw := leftN_le l w l.length
  try simp only [go_sem, Nat.reduceBEq]
  by_cases hr : rd ≤ 200
  case neg =>
    have : rd = 201 := by omega
    subst this
    simp only [decide_eq_false (show ¬ (((201 : Nat) : Nat) : Int) ≤ 200 by omega), go_sem, Nat.reduceBEq]
    refine ⟨?_, m3.ext⟩
    by_cases hz : leftN l w l.length = 0
    · rw [lightB_iff.2 (ri.light hz), decide_eq_true (show ((leftN l w l.length : Nat) : Int) = 0 by omega)]
    · rw [decide_eq_false (show ¬ ((leftN l w l.length : Nat) : Int) = 0 by omega), Bool.eq_false_iff.2 fun k => ri.stop hz (lightB_iff.1 k)]
  by_cases hz : leftN l w l.length = 0
  · simp only [decide_eq_true (show ((rd : Nat) : Int) ≤ 200 by omega), decide_eq_false (show ¬ (0 : Int) < ((leftN l w l.length : Nat) : Int) by omega), go_sem, Nat.reduceBEq]
    refine ⟨?_, m3.ext⟩
    rw [lightB_iff.2 (ri.light hz), decide_eq_true (show ((leftN l w l.length : Nat) : Int) = 0 by omega)]
  simp only [decide_eq_true (show ((rd : Nat) : Int) ≤ 200 by omega), decide_eq_true (show (0 : Int) < ((leftN l w l.length : Nat) : Int) by omega), go_sem, Nat.reduceBEq]
  refine aloop (ι := Nat × List Int) (fun x => [(7, .val (.int .i64 (x.1 : Nat))), (6, .val (.int .i64 (rd : Nat))), (4, .val (.int .i64 (leftN l x.2 l.length : Nat))), (3, .val (.slice (some ⟨bo, 0, none⟩) l.length l.length)), (1, .box 1 0)]) (fun _ => [(1, [.slice a1 l.length c1])])
    (fun x h' => x.1 ≤ l.length ∧ rInv l x.2 rd x.1 ∧ My h h' [(.row 1 (x.2.flatMap idt), .slice (some ⟨bo, 0, none⟩) l.length l.length)]) (fun x => l.length - x.1) (0, w)
    ⟨Nat.zero_le _, ri, m3⟩ (by repeat (first | exact wkF_e | refine wkF_c rfl ?_)) (wkB_c rfl wkB_e) rfl ?_
  rintro ⟨i, w⟩ h3 ⟨hi, ri, m3⟩
  have hi : i ≤ l.length := hi
  have ri : rInv l w rd i := ri
  have m3 : My h h3 [(.row 1 (w.flatMap idt), .slice (some ⟨bo, 0, none⟩) l.length l.length)] := m3
  have hlw := leftN_le l w l.length
  have wlen := ri.len
  try simp only [go_sem, Nat.reduceBEq]
  refine Br.intro (fun hq => ?_) (fun hq => ?_) <;> (try simp only [hq, go_sem, Nat.reduceBEq, Nat.reduceEqDiff])
  · have hq : i < l.length := by simpa using hq
    obtain ⟨b1, o1, rfl, hat1'⟩ := hat1 (by omega)
    have hbk := blk_at hq
    have hcb := hcz i _ hbk
    have hsb := slots_bulk hbk
    obtain ⟨hsl, hsv⟩ := tab_slots (blk l i).tab
    have wsu := wrap_succ (i := i) (by omega)
    obtain ⟨ys, hry, haty⟩ := m3.at_
    have hwi : w[i]? = some (w.getD i 0) := getD_at (by omega)
    simp only [ix_nat hq, go_sem, Nat.reduceBEq]
    refine hsem_bcnt tyS3 (hat1'.mono m3.ext) (hr1.mono m3.ext) hbk rfl ?_
    by_cases hc : (blk l i).count = 0
    · simp only [decide_eq_true hc, wsu, go_sem, Nat.reduceBEq, Nat.reduceEqDiff]
      exact Again.intro (i + 1, w) (by first | omega | (simp only; omega)) ⟨hq, ri.skip (.inl (by omega)), m3⟩ (by repeat (first | exact wkF_e | refine wkF_c rfl ?_)) (wkB_c rfl wkB_e) rfl
    simp only [decide_eq_false hc, ix_nat hq, go_sem, Nat.reduceBEq]
    refine hsem_num tyS3 (haty (by omega)) hry hwi (by omega) ?_
    by_cases hw0 : 0 < w.getD i 0
    · simp only [decide_eq_true hw0, wsu, go_sem, Nat.reduceBEq, Nat.reduceEqDiff]
      exact Again.intro (i + 1, w) (by first | omega | (simp only; omega)) ⟨hq, ri.skip (.inr (by omega)), m3⟩ (by repeat (first | exact wkF_e | refine wkF_c rfl ?_)) (wkB_c rfl wkB_e) rfl
    have hwz : w.getD i 0 = 0 := by
      by_cases hx : w.getD i 0 = 0
      · exact hx
      · have := ri.wt i _ hwi hx
        omega
    simp only [decide_eq_false hw0, ix_nat hq, go_sem, Nat.reduceBEq, Nat.reduceAdd]
    refine hpure_base m3.ext (hsem_bslots tyS34 hat1' hr1 hbk (by omega) fun u ru => ?_)
    obtain ⟨a2, c2, xs2, rfl, hc2, hr2, hat2⟩ := ru.rows (by decide) (blk l i).tab.slots.length (fm_len Sl.dt_len _)
    simp only [go_sem, Nat.reduceBEq]
    refine aloop (ι := Nat × Nat) (fun x => [(10, .val (.int .i64 (x.1 : Nat))), (9, .val (.slice a2 (blk l i).tab.slots.length c2)), (8, .val (.int .i64 (x.2 : Nat))), (7, .val (.int .i64 (i : Nat))), (6, .val (.int .i64 (rd : Nat))), (4, .val (.int .i64 (leftN l w l.length : Nat))), (3, .val (.slice (some ⟨bo, 0, none⟩) l.length l.length)), (1, .box 1 0)]) (fun _ => [(1, [.slice (some ⟨b1, o1, none⟩) l.length c1])])
      (fun x h' => x.1 ≤ (blk l i).tab.slots.length ∧ x.2 ≤ 1 + 200 * x.1 ∧ preW l w (blk l i).tab.slots x.1 x.2 ∧ h3 = h') (fun x => (blk l i).tab.slots.length - x.1) (0, 1)
      ⟨Nat.zero_le _, by simp, .inl ⟨Nat.le_refl _, SumR.nil l⟩, rfl⟩ (by repeat (first | exact wkF_e | refine wkF_c rfl ?_)) (wkB_c rfl wkB_e) rfl ?_
    rintro ⟨k, n⟩ _ ⟨hk, hn, pw, rfl⟩
    have hk : k ≤ (blk l i).tab.slots.length := hk
    have hn : n ≤ 1 + 200 * k := hn
    have pw : preW l w (blk l i).tab.slots k n := pw
    try simp only [go_sem, Nat.reduceBEq]
    by_cases hkb : k < (blk l i).tab.slots.length ∧ 0 < n
    · obtain ⟨hkb, hn0⟩ := hkb
      obtain ⟨hn1, hsum⟩ : 1 ≤ n ∧ SumR l ((blk l i).tab.slots.take k) (n - 1) := by
        rcases pw with q | q
        · exact q
        · omega
      obtain ⟨b2, o2, rfl, hat2'⟩ := hat2 (by omega)
      obtain ⟨e, he, hme⟩ := get_lt hkb
      have wsk := wrap_succ (i := k) (by omega)
      simp only [decide_eq_true (show ((k : Nat) : Int) < (((blk l i).tab.slots.length : Nat) : Int) by omega), decide_eq_true (show (0 : Int) < ((n : Nat) : Int) by omega), ix_nat hkb, go_sem, Nat.reduceBEq, Nat.reduceAdd]
      refine hsem_slive tyS4 (hat2'.mono m3.ext) (hr2.mono m3.ext) he rfl ?_
      cases hv : e.live with
      | false =>
        simp only [wsk, go_sem, Nat.reduceBEq]
        refine Again.intro (k + 1, n) (by first | omega | (simp only; omega)) ⟨hkb, by show n ≤ 1 + 200 * (k + 1); omega, .inl ⟨hn1, ?_⟩, rfl⟩ (by repeat (first | exact wkF_e | refine wkF_c rfl ?_)) (wkB_c rfl wkB_e) rfl
        rw [take_snoc he]
        exact SumR.append.2 ⟨n - 1, 0, hsum, SumR.one.2 (.inl ⟨hv, rfl⟩), rfl⟩
      | true =>
      simp only [ix_nat hkb, go_sem, Nat.reduceBEq, Nat.reduceAdd]
      refine hsem_skind tyS3 (hat2'.mono m3.ext) (hr2.mono m3.ext) he (by omega) ?_
      by_cases h5 : e.val.kind = 5
      case neg =>
        have hw1 := wrap_succ (i := n) (by omega)
        simp only [decide_eq_false h5, Bool.not_false, hw1, wsk, go_sem, Nat.reduceBEq]
        refine Again.intro (k + 1, n + 1) (by first | omega | (simp only; omega)) ⟨hkb, by show n + 1 ≤ 1 + 200 * (k + 1); omega, .inl ⟨by omega, ?_⟩, rfl⟩ (by repeat (first | exact wkF_e | refine wkF_c rfl ?_)) (wkB_c rfl wkB_e) rfl
        rw [take_snoc he]
        exact SumR.append.2 ⟨n - 1, 1, hsum, SumR.one.2 (.inr (.inr ⟨hv, h5, rfl⟩)), by show n + 1 - 1 = _; omega⟩
      have hh := hin i _ hbk k e he hv
      obtain ⟨q1, q2, q3⟩ := held_num hh h5
      have hwk : w[e.val.num.toNat]? = some (w.getD e.val.num.toNat 0) := getD_at (by omega)
      simp only [decide_eq_true h5, Bool.not_true, ix_nat hkb, go_sem, Nat.reduceBEq, Nat.reduceAdd]
      refine hsem_snum tyS3 (hat2'.mono m3.ext) (hr2.mono m3.ext) he (by omega) ?_
      simp only [ix_int q1 q2, go_sem, Nat.reduceBEq]
      refine hsem_num tyS3 (haty (by omega)) hry hwk (by omega) ?_
      by_cases hkz : w.getD e.val.num.toNat 0 = 0
      · simp only [decide_eq_true hkz, wsk, go_sem, Nat.reduceBEq]
        exact Again.intro (k + 1, 0) (by first | omega | (simp only; omega)) ⟨hkb, Nat.zero_le _, .inr ⟨rfl, k, e, he, hv, h5, hkz⟩, rfl⟩ (by repeat (first | exact wkF_e | refine wkF_c rfl ?_)) (wkB_c rfl wkB_e) rfl
      · obtain ⟨m, hm, m1, m2', hwt⟩ := ri.kid hh h5 hkz
        rw [hwk] at hm
        have hm := Option.some.inj hm
        simp only [decide_eq_false hkz, ix_nat hkb, go_sem, Nat.reduceBEq, Nat.reduceAdd]
        refine hsem_snum tyS3 (hat2'.mono m3.ext) (hr2.mono m3.ext) he (by omega) ?_
        simp only [ix_int q1 q2, go_sem, Nat.reduceBEq]
        refine hsem_num tyS3 (haty (by omega)) hry hwk (by omega) ?_
        rw [hm]
        have hws : IntKind.i64.wrap ((n : Int) + (m : Int)) = ((n + m : Nat) : Int) := by rw [IntWalk.i64_in _ (by omega)]; omega
        simp only [hws, wsk, go_sem, Nat.reduceBEq]
        refine Again.intro (k + 1, n + m) (by first | omega | (simp only; omega)) ⟨hkb, by show n + m ≤ 1 + 200 * (k + 1); omega, .inl ⟨by omega, ?_⟩, rfl⟩ (by repeat (first | exact wkF_e | refine wkF_c rfl ?_)) (wkB_c rfl wkB_e) rfl
        rw [take_snoc he]
        exact SumR.append.2 ⟨n - 1, m, hsum, SumR.one.2 (.inr (.inl ⟨hv, h5, hwt⟩)), by show n + m - 1 = _; omega⟩
    · have fin : (1 ≤ n ∧ Wt l i n) ∨ (n = 0 ∧ rInv l w rd (i + 1)) := by
        rcases pw with q | q
        · have hkk : k = (blk l i).tab.slots.length := by omega
          subst hkk
          rw [List.take_length] at q
          exact .inl ⟨q.1, Wt.iff.2 ⟨n - 1, q.2, by omega⟩⟩
        · obtain ⟨h0, j, s, hs, hl, h5, hz⟩ := q
          exact .inr ⟨h0, ri.wait hs hl h5 (hin i _ hbk j s hs hl) hz⟩
      have go : ∀ (X : Prop), (∀ (b : Bool), (b = false) → X) → X := fun X f => f false rfl
      by_cases hkl : k < (blk l i).tab.slots.length
      · have hn0 : n = 0 := by omega
        subst hn0
        simp only [decide_eq_true (show ((k : Nat) : Int) < (((blk l i).tab.slots.length : Nat) : Int) by omega), decide_eq_false (show ¬ (0 : Int) < ((0 : Nat) : Int) by omega), decide_eq_false (show ¬ (200 : Int) < ((0 : Nat) : Int) by omega), wsu, go_sem, Nat.reduceBEq, Nat.reduceEqDiff]
        rcases fin with q | q
        · omega
        · exact Again.intro (i + 1, w) (by first | omega | (simp only; omega)) ⟨hq, q.2, m3⟩ (by repeat (first | exact wkF_e | refine wkF_c rfl ?_)) (wkB_c rfl wkB_e) rfl
      · simp only [decide_eq_false (show ¬ ((k : Nat) : Int) < (((blk l i).tab.slots.length : Nat) : Int) by omega), go_sem, Nat.reduceBEq, Nat.reduceEqDiff]
        by_cases hbig : 200 < n
        · simp only [decide_eq_true (show (200 : Int) < ((n : Nat) : Int) by omega), go_sem, Nat.reduceBEq]
          refine ⟨?_, m3.ext⟩
          rcases fin with q | q
          · have hno : lightB l = false := Bool.eq_false_iff.2 fun kk => by
              obtain ⟨m, hm, hw⟩ := lightB_iff.1 kk i _ hbk (by omega)
              have := hw.uniq q.2
              omega
            rw [hno]
          · omega
        simp only [decide_eq_false (show ¬ (200 : Int) < ((n : Nat) : Int) by omega), go_sem, Nat.reduceBEq]
        rcases fin with q | q
        · have hls := leftN_set (w := w) (i := i) (x := (n : Nat)) (l := l) (by omega) (by omega) hwz (by omega) l.length
          rw [if_pos hq] at hls
          have hwl : IntKind.i64.wrap (((leftN l w l.length : Nat) : Int) - 1) = ((leftN l (w.set i (n : Nat)) l.length : Nat) : Int) := by rw [IntWalk.i64_in _ (by omega)]; omega
          obtain ⟨cn, hn', en⟩ := hold_num (es := w) (b := bo) (cap := l.length) (i := i) (by omega)
          rw [wlen] at hn'
          obtain ⟨x, hx⟩ := hold_self (es := w) (i := i) (by omega)
          simp only [decide_eq_true (show (0 : Int) < ((n : Nat) : Int) by omega), ix_nat hq, go_sem, Nat.reduceBEq]
          refine hn'.put1 (h0 := h) (d := .raw (.int .i64 x)) tyS3 rfl rfl (by rw [en, hx]; exact m3) (by omega) fun h5 m5 => ?_
          rw [en] at m5
          simp only [hwl, wsu, go_sem, Nat.reduceBEq]
          exact Again.intro (i + 1, w.set i (n : Nat)) (by first | omega | (simp only; omega)) ⟨hq, ri.put hq (by omega) hwz q.2 q.1 (by omega), m5⟩ (by repeat (first | exact wkF_e | refine wkF_c rfl ?_)) (wkB_c rfl wkB_e) rfl
        · obtain ⟨hn0, q⟩ := q
          subst hn0
          simp only [decide_eq_false (show ¬ (0 : Int) < ((0 : Nat) : Int) by omega), wsu, go_sem, Nat.reduceBEq]
          exact Again.intro (i + 1, w) (by first | omega | (simp only; omega)) ⟨hq, q, m3⟩ (by repeat (first | exact wkF_e | refine wkF_c rfl ?_)) (wkB_c rfl wkB_e) rfl
  · have hq : i = l.length := by simp at hq; omega
    subst hq
    have wsr := wrap_succ (i := rd) (by omega)
    simp only [wsr, go_sem]
    exact Again.intro (rd + 1, w) (by first | omega | (simp only; omega)) ⟨by show rd + 1 ≤ 201; omega, ri.next, m3⟩ (by repeat (first | exact wkF_e | refine wkF_c rfl ?_)) (wkB_c rfl wkB_e) rfl
theorem bk_negS {l : List Bk} {i : Nat} {b : Bk} (hb : l[i]? = some b) (h : bkOk l b = false) : heapB l = false := noHeap fun k => by
  have := k.blk i b hb
  rw [h] at this
  cases this
set_option maxHeartbeats 1600000 in
theorem sIsHeap (l : List Bk) (hb : szG Bk.bulk l ≤ 1048576) (s : Value) (h : Hp) (r : RdB h l s) : ACalls Tryz.prog 77 #[.agg #[s]] h (Is (.bool (heapB l)) h) := by
  have hlen := szG_len (w := Bk.bulk) l
  obtain ⟨a1, c1, xs1, rfl, hc1, hr1, hat1⟩ := r.rows (by decide) l.length (fm_len Bk.dt_len _)
  (refine enter Tryz.func77 rfl rfl (by kernel_rfl) [] ?_; simp only [go_sem, Nat.reduceBEq])
  refine aloop (ι := Nat) (fun i => [(3, .val (.int .i64 (i : Nat))), (1, .box 1 0)]) (fun _ => [(1, [.slice a1 l.length c1])])
    (fun i h' => i ≤ l.length ∧ Ext h h' ∧ preB l i) (fun i => l.length - i) 0 ⟨Nat.zero_le _, Ext.refl _, fun j b hj => by omega⟩ (by repeat (first | exact wkF_e | refine wkF_c rfl ?_)) (wkB_c rfl wkB_e) rfl ?_
  rintro i h1 ⟨hi, e1, pb⟩
  have hi : i ≤ l.length := hi
  have pb : preB l i := pb
  try simp only [go_sem, Nat.reduceBEq]
  refine Br.intro (fun hq => ?_) (fun hq => ?_) <;> (try simp only [hq, go_sem, Nat.reduceBEq, Nat.reduceLeDiff])
  · have hq : i < l.length := by simpa using hq
    obtain ⟨b1, o1, rfl, hat1'⟩ := hat1 (by omega)
    obtain ⟨b, hbk, hm⟩ := get_lt hq
    have hsb := slots_bulk hbk
    obtain ⟨hsl, hsv⟩ := tab_slots b.tab
    have wsu := wrap_succ (i := i) (by omega)
    simp only [ix_nat hq, go_sem, Nat.reduceBEq]
    refine hsem_blk tyS107 (hat1'.mono e1) (hr1.mono e1) hbk rfl fun s2 u2 rh ru => ?_
    obtain ⟨a3, c3, xs3, rfl, hc3, hr3, hat3⟩ := rh.rows (by decide) b.tab.heads.length (fm_len idt_len _)
    obtain ⟨a2, c2, xs2, rfl, hc2, hr2, hat2⟩ := ru.rows (by decide) b.tab.slots.length (fm_len Sl.dt_len _)
    by_cases h0 : b.count = 0
    · simp only [decide_eq_true h0, go_sem, Nat.reduceBEq, Nat.reduceAdd, Nat.reduceLeDiff]
      have hF : bkOk l b = b.free := bkOk_free h0
      (refine (sFree l b _ _ _ rh ru h0).mono ?_; rintro _ _ ⟨rfl, rfl⟩; simp only [go_sem, Nat.reduceBEq])
      cases hfr : b.free with
      | false =>
        simp only [Bool.not_false, go_sem, Nat.reduceBEq]
        exact ⟨by rw [bk_negS hbk (by rw [hF, hfr])], e1⟩
      | true =>
        have hs0 := free_slots hfr
        simp only [decide_eq_true h0, Bool.not_true, go_sem, Nat.reduceBEq]
        refine aloop (ι := Nat) (fun _ => [(5, .val (.int .i64 0)), (3, .val (.int .i64 (i : Nat))), (1, .box 1 0), (4, .box 4 0)]) (fun _ => [(1, [.slice (some ⟨b1, o1, none⟩) l.length c1]), (4, [.int .i64 b.count, .bool b.tab.hashed, .slice a3 b.tab.heads.length c3, .slice a2 b.tab.slots.length c2, .int .i64 b.tab.next, .int .i64 b.tab.count])])
          (fun k h' => h1 = h') (fun _ => 0) 0 rfl (by repeat (first | exact wkF_e | refine wkF_c rfl ?_)) (wkB_c rfl (wkB_c rfl wkB_e)) rfl ?_
        rintro k _ rfl
        simp only [hs0, List.length_nil, go_sem, Nat.reduceBEq, Nat.reduceAdd]
        simp only [decide_eq_false (show ¬ (0 : Int) < ((0 : Nat) : Int) by decide), wsu, go_sem, Nat.reduceBEq, Nat.reduceLeDiff, Nat.reduceEqDiff]
        exact Again.intro (i + 1) (by first | omega | (simp only; omega)) ⟨hq, e1, pb.step hbk (by rw [hF, hfr])⟩ (by repeat (first | exact wkF_e | refine wkF_c rfl ?_)) (wkB_c rfl wkB_e) rfl
    have hL := bkOk_live (l := l) h0
    simp only [decide_eq_false h0, Bool.not_false, go_sem, Nat.reduceBEq, Nat.reduceAdd, Nat.reduceLeDiff]
    (refine (l1In_c _ _ _ _).mono ?_; rintro _ _ ⟨rfl, rfl⟩; simp only [go_sem, Nat.reduceBEq])
    by_cases q0 : 1 ≤ b.count ∧ b.count ≤ 1000000000000
    case neg =>
      simp only [decide_eq_false q0, Bool.not_false, go_sem, Nat.reduceBEq]
      exact ⟨by rw [bk_negS hbk (Bool.eq_false_iff.2 fun k => q0 (hL.1 k).1)], e1⟩
    simp only [decide_eq_true q0, Bool.not_true, go_sem, Nat.reduceBEq, Nat.reduceAdd, Nat.reduceLeDiff]
    refine (sIsTable b.tab (by omega) _ _ _ rh ru).mono ?_
    rintro _ h2 ⟨rfl, e12⟩
    have e2 := e1.trans e12
    cases hT : b.tab.isTab with
    | false =>
      simp only [Bool.not_false, go_sem, Nat.reduceBEq]
      exact ⟨by rw [bk_negS hbk (Bool.eq_false_iff.2 fun k => by have := (hL.1 k).2.1; rw [hT] at this; cases this)], e2⟩
    | true =>
    simp only [Bool.not_true, go_sem, Nat.reduceBEq]
    refine aloop (ι := Nat) (fun k => [(5, .val (.int .i64 (k : Nat))), (3, .val (.int .i64 (i : Nat))), (1, .box 1 0), (4, .box 4 0)]) (fun _ => [(1, [.slice (some ⟨b1, o1, none⟩) l.length c1]), (4, [.int .i64 b.count, .bool b.tab.hashed, .slice a3 b.tab.heads.length c3, .slice a2 b.tab.slots.length c2, .int .i64 b.tab.next, .int .i64 b.tab.count])])
      (fun k h' => k ≤ b.tab.slots.length ∧ Ext h1 h' ∧ preS l b.tab.slots k) (fun k => b.tab.slots.length - k) 0 ⟨Nat.zero_le _, e12, fun j b hj => by omega⟩ (by repeat (first | exact wkF_e | refine wkF_c rfl ?_)) (wkB_c rfl (wkB_c rfl wkB_e)) rfl ?_
    rintro k h3 ⟨hk, e13, ps⟩
    have hk : k ≤ b.tab.slots.length := hk
    have ps : preS l b.tab.slots k := ps
    have e3 := e1.trans e13
    try simp only [go_sem, Nat.reduceBEq, Nat.reduceAdd]
    refine Br.intro (fun hkb => ?_) (fun hkb => ?_) <;> (try simp only [hkb, go_sem, Nat.reduceBEq, Nat.reduceLeDiff, Nat.reduceEqDiff])
    · have hkb : k < b.tab.slots.length := by simpa using hkb
      obtain ⟨b2, o2, rfl, hat2'⟩ := hat2 (by omega)
      obtain ⟨e, he, hme⟩ := get_lt hkb
      have hve := hsv e hme
      have wsk := wrap_succ (i := k) (by omega)
      refine regionD_intro (lb := [53, 59, 62]) (by kernel_rfl) ?_
      simp only [ix_nat hkb, go_sem, Nat.reduceBEq, Nat.reduceAdd]
      refine hsem_slive tyS4 (hat2'.mono e13) (hr2.mono e13) he rfl ?_
      cases hv : e.live with
      | false =>
        simp only [wsk, go_sem, Nat.reduceBEq]
        exact Again.intro (k + 1) (by first | omega | (simp only; omega)) ⟨hkb, e13, ps.step he fun q => by rw [hv] at q; cases q⟩ (by repeat (first | exact wkF_e | refine wkF_c rfl ?_)) (wkB_c rfl (wkB_c rfl wkB_e)) rfl
      | true =>
        simp only [ix_nat hkb, go_sem, Nat.reduceBEq, Nat.reduceAdd, Nat.reduceLeDiff]
        refine hsem_sval tyS44 (hat2'.mono e13) (hr2.mono e13) he (by omega) fun s3 rd3 => ?_
        try simp only [go_sem, Nat.reduceBEq]
        refine (sIsHeld l e.val (by omega) (by omega) _ _ _ (r.mono e3) rd3).mono ?_
        rintro _ h4 ⟨rfl, e34⟩
        cases hhd : isHeld l e.val with
        | false =>
          simp only [Bool.not_false, go_sem, Nat.reduceBEq]
          exact ⟨by rw [bk_negS hbk (Bool.eq_false_iff.2 fun q => by have := (hL.1 q).2.2 k e he hv; rw [hhd] at this; cases this)], e3.trans e34⟩
        | true =>
          simp only [Bool.not_true, wsk, go_sem, Nat.reduceBEq]
          exact Again.intro (k + 1) (by first | omega | (simp only; omega)) ⟨hkb, e13.trans e34, ps.step he fun _ => hhd⟩ (by repeat (first | exact wkF_e | refine wkF_c rfl ?_)) (wkB_c rfl (wkB_c rfl wkB_e)) rfl
    · have hkb : k = b.tab.slots.length := by simp at hkb; omega
      subst hkb
      simp only [wsu, go_sem]
      exact Again.intro (i + 1) (by first | omega | (simp only; omega)) ⟨hq, e3, pb.step hbk (hL.2 ⟨q0, hT, fun k s hs hl => ps k s (lt_of_get hs) hs hl⟩)⟩ (by repeat (first | exact wkF_e | refine wkF_c rfl ?_)) (wkB_c rfl wkB_e) rfl
  · have hq : i = l.length := by simp at hq; omega
    subst hq
    obtain ⟨hin, hcz⟩ := pb.inR
    try simp only [go_sem, Nat.reduceBEq, Nat.reduceAdd, Nat.reduceLeDiff, Nat.reduceEqDiff, Int.reduceEq, not_false_eq_true, Int.reduceToNat]
    refine (sLight l hb hin hcz _ _ (r.mono e1)).mono ?_
    rintro _ h2 ⟨rfl, e12⟩
    simp only [go_sem, Nat.reduceBEq]
    refine ⟨?_, e1.trans e12⟩
    have : heapB l = lightB l := by
      unfold heapB
      rw [allAt_iff.2 fun i b hb => pb i b (lt_of_get hb) hb, Bool.true_and]
    rw [this]
end Go.Proofs.YtedfplodobpgfaaGreatDoor
/-! What is done to heaps, in plain Lean: load, share, drop, store. -/
namespace Go.Sx
open Go
/-! the tree of a held value -/
def ldS (g : V → V) (ss : List Sl) : List (Ky × V) := (ss.filter (·.live)).map fun s => (s.key, g s.val)
def ldF (l : List Bk) : Nat → V → V
  | 0, v => v
  | f + 1, v => if v.kind = 5 then ⟨4, 0, ⟨#[]⟩, (blk l v.num.toNat).tab.next, ldS (ldF l f) (blk l v.num.toNat).tab.slots⟩ else v
theorem ldF_other {l : List Bk} {f : Nat} {v : V} (h : ¬ v.kind = 5) : ldF l f v = v := by
  cases f with
  | zero => rfl
  | succ f => rw [ldF, if_neg h]
theorem ldF_handle {l : List Bk} {f : Nat} {v : V} (h : v.kind = 5) : ldF l (f + 1) v = ⟨4, 0, ⟨#[]⟩, (blk l v.num.toNat).tab.next, ldS (ldF l f) (blk l v.num.toNat).tab.slots⟩ := by rw [ldF, if_pos h]
theorem ldS_snoc {g : V → V} {ss : List Sl} {i : Nat} {s : Sl} (h : ss[i]? = some s) : ldS g (ss.take (i + 1)) = if s.live then ldS g (ss.take i) ++ [(s.key, g s.val)] else ldS g (ss.take i) := by
  unfold ldS
  rw [take_snoc h, List.filter_append, List.map_append]
  cases hl : s.live <;> simp [hl]
theorem ldS_len (g : V → V) (ss : List Sl) : (ldS g ss).length = liveN ss := List.length_map ..
theorem ldS_le (g : V → V) (ss : List Sl) (i : Nat) : (ldS g (ss.take i)).length ≤ i := by
  rw [ldS_len]
  have := liveN_le (ss.take i)
  rw [List.length_take] at this
  omega
/-- a weighed value: not a handle, or its block has a weight by then -/
def weighed (l : List Bk) (f : Nat) (v : V) : Prop := isHeld l v = true ∧ (v.kind = 5 → ∃ n, wtF l f v.num.toNat = some n)
theorem sumW_mem {g : Nat → Option Nat} : ∀ {ss : List Sl} {n : Nat}, sumW g ss = some n → ∀ s ∈ ss, s.live = true → s.val.kind = 5 → ∃ m, g s.val.num.toNat = some m
  | [], _, _, s, hs, _, _ => by cases hs
  | u :: r, n, h, s, hs, hl, hk => by
    rw [sumW] at h
    cases hu : u.live with
    | false =>
      rw [hu] at h
      simp only [Bool.false_eq_true, if_false] at h
      cases hs with
      | head => rw [hl] at hu; cases hu
      | tail _ hs => exact sumW_mem h s hs hl hk
    | true =>
      rw [hu] at h
      simp only [if_true] at h
      cases h1 : (if u.val.kind = 5 then g u.val.num.toNat else some 1) with
      | none => rw [h1] at h; cases h
      | some a =>
        cases h2 : sumW g r with
        | none => rw [h1, h2] at h; cases h
        | some b =>
          cases hs with
          | head => rw [if_pos hk] at h1; exact ⟨a, h1⟩
          | tail _ hs => exact sumW_mem h2 s hs hl hk
theorem weighed.kids {l : List Bk} {f : Nat} {v : V} (hin : inR l) (w : weighed l (f + 1) v) (hk : v.kind = 5) : ∀ (k : Nat) (s : Sl), (blk l v.num.toNat).tab.slots[k]? = some s → s.live = true → weighed l f s.val := by
  intro k s hs hl
  obtain ⟨q1, q2, q3⟩ := held_num w.1 hk
  obtain ⟨n, hn⟩ := w.2 hk
  rw [wtF] at hn
  simp only [Option.map_eq_some_iff] at hn
  obtain ⟨m, hm, _⟩ := hn
  exact ⟨hin _ _ (blk_at q2) k s hs hl, fun h5 => sumW_mem hm s (List.mem_of_getElem? hs) hl h5⟩
theorem hOk.weighed {l : List Bk} (h : hOk l) {v : V} (hv : isHeld l v = true) : weighed l 200 v := by
  refine ⟨hv, fun hk => ?_⟩
  obtain ⟨q1, q2, q3⟩ := held_num hv hk
  obtain ⟨n, hn, hw⟩ := h.light _ _ (blk_at q2) q3
  exact ⟨n, hw.fuel hn⟩
/-- all tables are right enough to be walked -/
def allCh (l : List Bk) : Prop := ∀ (i : Nat) (b : Bk), l[i]? = some b → b.tab.ch
theorem free_tab {b : Bk} (h : b.free = true) : b.tab = tb0 := by
  unfold Bk.free at h
  simp only [Bool.and_eq_true, decide_eq_true_eq, Bool.not_eq_true'] at h
  obtain ⟨h1, h2, h3, h4, h5⟩ := h
  obtain ⟨c, ⟨a1, a2, a3, a4, a5⟩⟩ := b
  simp only at h1 h2 h3 h4 h5 ⊢
  rw [h1, List.eq_nil_of_length_eq_zero h2, List.eq_nil_of_length_eq_zero h3, h4, h5]
  rfl
theorem hOk.ch {l : List Bk} (h : hOk l) : allCh l := by
  intro i b hb
  have := h.blk i b hb
  by_cases hc : b.count = 0
  · rw [bkOk_free hc] at this
    rw [free_tab this]
    exact tb0_ch
  · exact tab_ch ((bkOk_live hc).1 this).2.1
theorem blk_out {l : List Bk} {i : Nat} (h : l.length ≤ i) : blk l i = bk0 := by
  unfold blk
  rw [List.getD_eq_getElem?_getD, List.getElem?_eq_none h]
  rfl
theorem allCh.blk {l : List Bk} (h : allCh l) (i : Nat) : (blk l i).tab.ch := by
  by_cases hi : i < l.length
  · exact h i _ (blk_at hi)
  · rw [blk_out (by omega)]
    exact tb0_ch
/-- how much a loaded tree holds -/
theorem ld_bulk {l : List Bk} (hin : inR l) (hc : allCh l) : ∀ (f : Nat) (v : V), weighed l f v → ∀ n, (v.kind = 5 → wtF l f v.num.toNat = some n) → (¬ v.kind = 5 → n = 1) → (ldF l f v).bulk + 401 ≤ 801 * n
  | 0, v, w, n, h, k => by
    by_cases h5 : v.kind = 5
    · have := h h5
      cases this
    · have e := held_items w.1
      have hb := V.bulk_eq v
      rw [e.1] at hb
      have hz : V.bulks [] = 0 := rfl
      rw [hz] at hb
      have := k h5
      show v.bulk + 401 ≤ _
      omega
  | f + 1, v, w, n, h, k => by
    by_cases h5 : v.kind = 5
    · have hn := h h5
      rw [wtF] at hn
      simp only [Option.map_eq_some_iff] at hn
      obtain ⟨m, hm, rfl⟩ := hn
      rw [ldF_handle h5]
      have hks := (hc.blk v.num.toNat).keys
      have key : ∀ (ss : List Sl) (m : Nat), (∀ s ∈ ss, s.live = true → weighed l f s.val ∧ s.key.str.size ≤ 400) → sumW (wtF l f) ss = some m → V.bulks (ldS (ldF l f) ss) ≤ 801 * m := by
        intro ss
        induction ss with
        | nil => intro m _ hm; simp [ldS, V.bulks]
        | cons s r ih =>
          intro m hs hm
          rw [sumW] at hm
          unfold ldS at ih ⊢
          rw [List.filter_cons]
          cases hl : s.live with
          | false =>
            rw [hl] at hm
            simp only [Bool.false_eq_true, if_false] at hm ⊢
            exact ih m (fun u hu => hs u (by simp [hu])) hm
          | true =>
            rw [hl] at hm
            simp only [if_true] at hm ⊢
            obtain ⟨hw, hsz⟩ := hs s (by simp) hl
            cases h1 : (if s.val.kind = 5 then wtF l f s.val.num.toNat else some 1) with
            | none => rw [h1] at hm; cases hm
            | some a =>
              cases h2 : sumW (wtF l f) r with
              | none => rw [h1, h2] at hm; cases hm
              | some b =>
                rw [h1, h2] at hm
                have e : a + b = m := Option.some.inj hm
                have i1 := ih b (fun u hu => hs u (by simp [hu])) h2
                have i2 := ld_bulk hin hc f s.val hw a (fun q => by rw [if_pos q] at h1; exact h1) (fun q => by rw [if_neg q] at h1; exact (Option.some.inj h1).symm)
                rw [List.map_cons]
                simp only [V.bulks]
                omega
      have hsl : ∀ s ∈ (blk l v.num.toNat).tab.slots, s.live = true → weighed l f s.val ∧ s.key.str.size ≤ 400 := fun s hs hl => by
        obtain ⟨k, hk⟩ := List.getElem?_of_mem hs
        refine ⟨w.kids hin h5 k s hk hl, ?_⟩
        have := (hks k s hk).1
        unfold keyOk at this
        cases ht : s.key.text with
        | true => rw [ht] at this; simp at this; omega
        | false => rw [ht] at this; simp at this; rw [this.1]; exact Nat.zero_le _
      have hq := key _ m hsl hm
      have hb := V.bulk_eq (⟨4, 0, ⟨#[]⟩, (blk l v.num.toNat).tab.next, ldS (ldF l f) (blk l v.num.toNat).tab.slots⟩ : V)
      have e1 : (⟨4, 0, ⟨#[]⟩, (blk l v.num.toNat).tab.next, ldS (ldF l f) (blk l v.num.toNat).tab.slots⟩ : V).items = ldS (ldF l f) (blk l v.num.toNat).tab.slots := rfl
      have e2 : (⟨4, 0, ⟨#[]⟩, (blk l v.num.toNat).tab.next, ldS (ldF l f) (blk l v.num.toNat).tab.slots⟩ : V).str.size = 0 := rfl
      rw [e1, e2] at hb
      omega
    · have e := held_items w.1
      have hb := V.bulk_eq v
      rw [e.1] at hb
      have hz : V.bulks [] = 0 := rfl
      rw [hz] at hb
      have := k h5
      rw [ldF_other h5]
      omega
end Go.Sx
namespace Go.Sx
open Go
theorem ld_small {l : List Bk} (h : hOk l) {v : V} (hv : isHeld l v = true) : (ldF l 200 v).bulk ≤ 160200 := by
  have w := h.weighed hv
  by_cases h5 : v.kind = 5
  · obtain ⟨q1, q2, q3⟩ := held_num hv h5
    obtain ⟨n, hn, hw⟩ := h.light _ _ (blk_at q2) q3
    have := ld_bulk h.inR h.ch 200 v w n (fun _ => hw.fuel hn) (fun q => absurd h5 q)
    omega
  · have := ld_bulk h.inR h.ch 200 v w 1 (fun q => absurd q h5) (fun _ => rfl)
    omega
/-! sharing -/
def Bk.withC (b : Bk) (n : Int) : Bk := ⟨n, b.tab⟩
def Bk.withT (b : Bk) (t : Tb) : Bk := ⟨b.count, t⟩
def shareH (l : List Bk) (v : V) : List Bk := if v.kind = 5 then l.set v.num.toNat ((blk l v.num.toNat).withC ((blk l v.num.toNat).count + 1)) else l
theorem shareH_len (l : List Bk) (v : V) : (shareH l v).length = l.length := by
  unfold shareH
  split
  · rw [List.length_set]
  · rfl
/-! counts -/
def allHeld (l : List Bk) (roots : List V) : Bool := roots.all (isHeld l)
def sameC (l : List Bk) (c : List Int) : Bool := allIx c.length fun i => decide ((blk l i).count = c.getD i 0)
def countedB (l : List Bk) (roots : List V) : Bool := heapB l && (allHeld l roots && sameC l (counts l roots))
theorem sameC_iff {l : List Bk} {c : List Int} : sameC l c = true ↔ ∀ i, i < c.length → (blk l i).count = c.getD i 0 := by
  unfold sameC
  rw [allIx_iff]
  exact ⟨fun h i hi => of_decide_eq_true (h i hi), fun h i hi => decide_eq_true (h i hi)⟩
theorem counted_no1 {l : List Bk} {rs : List V} (h : heapB l = false) : countedB l rs = false := by unfold countedB; rw [h]; rfl
theorem counted_no2 {l : List Bk} {rs : List V} {v : V} (hv : v ∈ rs) (h : isHeld l v = false) : countedB l rs = false := by
  unfold countedB allHeld
  rw [show rs.all (isHeld l) = false from List.all_eq_false.2 ⟨v, hv, by rw [h]; simp⟩]
  simp
theorem counted_no3 {l : List Bk} {rs : List V} (h : sameC l (counts l rs) = false) : countedB l rs = false := by unfold countedB; rw [h]; simp
theorem counted_yes {l : List Bk} {rs : List V} (h : heapB l = true) (h2 : ∀ v ∈ rs, isHeld l v = true) (h3 : sameC l (counts l rs) = true) : countedB l rs = true := by
  unfold countedB allHeld
  rw [h, h3, List.all_eq_true.2 h2]
  rfl
/-! dropping -/
def slotsN (l : List Bk) : Nat := gsum (fun b : Bk => b.tab.slots.length) l
def dropS (g : List Bk → V → List Bk) : List Bk → List Sl → List Bk
  | l, [] => l
  | l, s :: r => dropS g (if s.live then g l s.val else l) r
def dropF : Nat → List Bk → V → List Bk
  | 0, l, _ => l
  | f + 1, l, v => if v.kind = 5 then
      (if 0 < (blk l v.num.toNat).count - 1 then l.set v.num.toNat ((blk l v.num.toNat).withC ((blk l v.num.toNat).count - 1))
       else dropS (dropF f) (l.set v.num.toNat bk0) (blk l v.num.toNat).tab.slots)
    else l
theorem dropS_append (g : List Bk → V → List Bk) (p q : List Sl) : ∀ l, dropS g l (p ++ q) = dropS g (dropS g l p) q := by
  induction p with
  | nil => intro l; rfl
  | cons e r ih => intro l; rw [List.cons_append, dropS, dropS, ih]
theorem dropS_snoc {g : List Bk → V → List Bk} {l : List Bk} {ss : List Sl} {i : Nat} {s : Sl} (h : ss[i]? = some s) : dropS g l (ss.take (i + 1)) = if s.live then g (dropS g l (ss.take i)) s.val else dropS g l (ss.take i) := by
  rw [take_snoc h, dropS_append]
  rfl
theorem gsum_set {α : Type} {w : α → Nat} {l : List α} {i : Nat} {a : α} (h : l[i]? = some a) (u : α) : gsum w (l.set i u) + w a = gsum w l + w u := by
  have hi := (List.getElem?_eq_some_iff.1 h).1
  have e1 : l = l.take i ++ a :: l.drop (i + 1) := at_split h
  rw [set_split u hi]
  conv => rhs; rw [e1]
  simp only [gsum, List.map_append, List.map_cons, List.sum_append, List.sum_cons]
  omega
theorem blk_set_ne {l : List Bk} {i j : Nat} {b : Bk} (h : ¬ i = j) : blk (l.set i b) j = blk l j := by
  unfold blk
  rw [List.getD_eq_getElem?_getD, List.getD_eq_getElem?_getD, List.getElem?_set, if_neg h]
theorem blk_set_same {l : List Bk} {i : Nat} {b : Bk} (h : i < l.length) : blk (l.set i b) i = b := by
  unfold blk
  rw [List.getD_eq_getElem?_getD, List.getElem?_set, if_pos rfl, if_pos h]
  rfl
/-- what is right of a heap all through: handles within it, tables that can be walked, counts from 0 on -/
structure hIn (n : Nat) (c : Int) (l : List Bk) : Prop where
  len : l.length = n
  num : ∀ (i : Nat) (b : Bk), l[i]? = some b → ∀ (k : Nat) (s : Sl), b.tab.slots[k]? = some s → s.live = true → s.val.kind = 5 → 0 ≤ s.val.num ∧ s.val.num.toNat < n
  cnt : ∀ (i : Nat) (b : Bk), l[i]? = some b → 0 ≤ b.count ∧ b.count ≤ c
theorem hOk.hIn {l : List Bk} (h : hOk l) : hIn l.length 1000000000000 l := by
  refine ⟨rfl, fun i b hb k s hs hl h5 => ?_, fun i b hb => ?_⟩
  · obtain ⟨q1, q2, _⟩ := held_num (h.inR i b hb k s hs hl) h5
    exact ⟨q1, q2⟩
  · have := h.blk i b hb
    by_cases hc : b.count = 0
    · omega
    · have := ((bkOk_live hc).1 this).1
      omega
theorem set_getB {l : List Bk} {i j : Nat} {b u : Bk} (h : (l.set i u)[j]? = some b) : (j = i ∧ b = u) ∨ l[j]? = some b := by
  rw [List.getElem?_set] at h
  split at h
  · rename_i he
    split at h
    · cases h; exact .inl ⟨he.symm, rfl⟩
    · cases h
  · exact .inr h
/-- a block with fewer references, or none of its slots -/
theorem hIn.set {n : Nat} {c : Int} {l : List Bk} (h : hIn n c l) (i : Nat) {u : Bk} (hs : u.tab.slots = (blk l i).tab.slots ∨ u.tab.slots = []) (hc : 0 ≤ u.count ∧ u.count ≤ c) : hIn n c (l.set i u) := by
  refine ⟨by rw [List.length_set, h.len], fun j b hb k s hk hl h5 => ?_, fun j b hb => ?_⟩
  · rcases set_getB hb with ⟨rfl, rfl⟩ | hb
    · rcases hs with hs | hs
      · rw [hs] at hk
        by_cases hj : j < l.length
        · exact h.num j _ (blk_at hj) k s hk hl h5
        · rw [blk_out (by omega)] at hk
          simp [bk0] at hk
      · rw [hs] at hk
        simp at hk
    · exact h.num j b hb k s hk hl h5
  · rcases set_getB hb with ⟨rfl, rfl⟩ | hb
    · exact hc
    · exact h.cnt j b hb
theorem hIn.up {n : Nat} {c c' : Int} {l : List Bk} (h : hIn n c l) (hc : c ≤ c') : hIn n c' l := ⟨h.len, h.num, fun i b hb => by have := h.cnt i b hb; omega⟩
theorem hIn.blk {n : Nat} {c : Int} {l : List Bk} (h : hIn n c l) {i : Nat} (hi : i < n) : (0 ≤ (blk l i).count ∧ (blk l i).count ≤ c) ∧ ∀ s ∈ (blk l i).tab.slots, s.live = true → s.val.kind = 5 → 0 ≤ s.val.num ∧ s.val.num.toNat < n := by
  have hb := blk_at (l := l) (i := i) (by rw [h.len]; exact hi)
  refine ⟨h.cnt i _ hb, fun s hs hl h5 => ?_⟩
  obtain ⟨k, hk⟩ := List.getElem?_of_mem hs
  exact h.num i _ hb k s hk hl h5
/-- a reference that lies within the heap -/
def refIn (n : Nat) (v : V) : Prop := v.kind = 5 → 0 ≤ v.num ∧ v.num.toNat < n
theorem held_ref {l : List Bk} {v : V} (h : isHeld l v = true) : refIn l.length v := fun k => by
  obtain ⟨q1, q2, _⟩ := held_num h k
  exact ⟨q1, q2⟩
theorem slotsN_set {l : List Bk} {i : Nat} (hi : i < l.length) (u : Bk) : slotsN (l.set i u) + (blk l i).tab.slots.length = slotsN l + u.tab.slots.length := gsum_set (w := fun b : Bk => b.tab.slots.length) (blk_at hi) u
/-- dropping keeps what is right; slots go away only -/
theorem drop_in {n : Nat} {c : Int} : ∀ (f : Nat) (l : List Bk) (v : V), hIn n c l → refIn n v → hIn n c (dropF f l v) ∧ slotsN (dropF f l v) ≤ slotsN l
  | 0, l, v, h, _ => ⟨h, Nat.le_refl _⟩
  | f + 1, l, v, h, hr => by
    rw [dropF]
    split
    · rename_i h5
      obtain ⟨q1, q2⟩ := hr h5
      obtain ⟨hc, hs⟩ := h.blk q2
      split
      · refine ⟨h.set _ (.inl rfl) (by show 0 ≤ (blk l v.num.toNat).count - 1 ∧ (blk l v.num.toNat).count - 1 ≤ _; omega), ?_⟩
        have := slotsN_set (l := l) (by rw [h.len]; exact q2) ((blk l v.num.toNat).withC ((blk l v.num.toNat).count - 1))
        have e : ((blk l v.num.toNat).withC ((blk l v.num.toNat).count - 1)).tab.slots.length = (blk l v.num.toNat).tab.slots.length := rfl
        omega
      · have h0 : hIn n c (l.set v.num.toNat bk0) := h.set _ (.inr rfl) ⟨Int.le_refl _, by show (0 : Int) ≤ c; omega⟩
        have t0 := slotsN_set (l := l) (by rw [h.len]; exact q2) bk0
        have e : bk0.tab.slots.length = 0 := rfl
        have key : ∀ (ss : List Sl) (l' : List Bk), (∀ s ∈ ss, s.live = true → s.val.kind = 5 → 0 ≤ s.val.num ∧ s.val.num.toNat < n) → hIn n c l' → hIn n c (dropS (dropF f) l' ss) ∧ slotsN (dropS (dropF f) l' ss) ≤ slotsN l' := by
          intro ss
          induction ss with
          | nil => intro l' _ h'; exact ⟨h', Nat.le_refl _⟩
          | cons s r ih =>
            intro l' hr' h'
            rw [dropS]
            cases hl : s.live with
            | false =>
              simp only [Bool.false_eq_true, if_false]
              exact ih l' (fun u hu => hr' u (by simp [hu])) h'
            | true =>
              simp only [if_true]
              obtain ⟨i1, i2⟩ := drop_in f l' s.val h' (hr' s (by simp) hl)
              obtain ⟨i3, i4⟩ := ih _ (fun u hu => hr' u (by simp [hu])) i1
              exact ⟨i3, by omega⟩
        obtain ⟨i1, i2⟩ := key _ _ hs h0
        exact ⟨i1, by omega⟩
    · exact ⟨h, Nat.le_refl _⟩
/-- the same, along slots -/
theorem drops_in {n : Nat} {c : Int} (f : Nat) : ∀ (ss : List Sl) (l : List Bk), (∀ s ∈ ss, s.live = true → s.val.kind = 5 → 0 ≤ s.val.num ∧ s.val.num.toNat < n) → hIn n c l → hIn n c (dropS (dropF f) l ss) ∧ slotsN (dropS (dropF f) l ss) ≤ slotsN l
  | [], l, _, h => ⟨h, Nat.le_refl _⟩
  | s :: r, l, hr, h => by
    rw [dropS]
    cases hl : s.live with
    | false =>
      simp only [Bool.false_eq_true, if_false]
      exact drops_in f r l (fun u hu => hr u (by simp [hu])) h
    | true =>
      simp only [if_true]
      obtain ⟨i1, i2⟩ := drop_in f l s.val h (hr s (by simp) hl)
      obtain ⟨i3, i4⟩ := drops_in f r _ (fun u hu => hr u (by simp [hu])) i1
      exact ⟨i3, by omega⟩
/-! how much heaps hold -/
/-! storing -/
/-- the first free block -/
def freeN : List Bk → Nat
  | [] => 0
  | b :: r => if 0 < b.count then freeN r + 1 else 0
theorem freeN_le : ∀ l : List Bk, freeN l ≤ l.length
  | [] => Nat.le_refl _
  | b :: r => by
    have := freeN_le r
    rw [freeN, List.length_cons]
    split <;> omega
theorem freeN_before : ∀ {l : List Bk} {i : Nat} {b : Bk}, i < freeN l → l[i]? = some b → 0 < b.count
  | [], i, b, h, hb => by simp at hb
  | u :: r, 0, b, h, hb => by
    rw [freeN] at h
    simp only [List.getElem?_cons_zero, Option.some.injEq] at hb
    subst hb
    split at h
    · assumption
    · omega
  | u :: r, i + 1, b, h, hb => by
    rw [freeN] at h
    simp only [List.getElem?_cons_succ] at hb
    split at h
    · exact freeN_before (l := r) (by omega) hb
    · omega
theorem freeN_at : ∀ {l : List Bk} {b : Bk}, l[freeN l]? = some b → ¬ 0 < b.count
  | [], b, hb => by simp at hb
  | u :: r, b, hb => by
    rw [freeN] at hb
    split at hb
    · simp only [List.getElem?_cons_succ] at hb
      exact freeN_at hb
    · rename_i h
      simp only [List.getElem?_cons_zero, Option.some.injEq] at hb
      subst hb
      exact h
theorem freeN_is {l : List Bk} {i : Nat} (h1 : ∀ (j : Nat) (b : Bk), j < i → l[j]? = some b → 0 < b.count) (hi : i ≤ l.length) (h2 : ∀ b, l[i]? = some b → ¬ 0 < b.count) : freeN l = i := by
  rcases Nat.lt_trichotomy (freeN l) i with h | h | h
  · have := blk_at (l := l) (i := freeN l) (by omega)
    exact absurd (h1 _ _ h this) (freeN_at this)
  · exact h
  · have hl := freeN_le l
    have := blk_at (l := l) (i := i) (by omega)
    exact absurd (freeN_before h this) (h2 _ this)
def hnd (i : Nat) : V := ⟨5, (i : Nat), ⟨#[]⟩, 0, []⟩
def allocH (l : List Bk) (t : Tb) : List Bk := if freeN l < l.length then l.set (freeN l) ⟨1, t⟩ else l ++ [⟨1, t⟩]
theorem allocH_len (l : List Bk) (t : Tb) : l.length ≤ (allocH l t).length ∧ (allocH l t).length ≤ l.length + 1 ∧ freeN l < (allocH l t).length := by
  have := freeN_le l
  unfold allocH
  split
  · rw [List.length_set]; omega
  · rw [List.length_append, List.length_singleton]; omega
end Go.Sx
/-! Blocks that lie in memory: their counts, their tables, written in place. -/
namespace Go.Sx
open Go
section
variable {P : Program} {h0 h : Hp} {K : Value → Hp → Prop} {bag : Bag} {c : List Dt → Dt} {val : Value} {b off : Nat}
theorem bk_row (l : List Bk) (i : Nat) (u : Bk) (hi : i < l.length) : (l.set i u).flatMap Bk.dt = (l.take i).flatMap Bk.dt ++ (u.dt ++ (l.drop (i + 1)).flatMap Bk.dt) := by
  rw [set_split u hi, List.flatMap_append, List.flatMap_cons]
/-- a block within the blocks -/
theorem hold_bk {l : List Bk} {i b cap : Nat} (hi : i < l.length) : ∃ c, Hold c (.slice (some ⟨b, 0, none⟩) l.length cap) b (i * 6) ∧ ∀ u : Bk, c u.dt = .row 6 ((l.set i u).flatMap Bk.dt) := by
  obtain ⟨e, he, _⟩ := get_lt hi
  obtain ⟨_, h2⟩ := fm_split Bk.dt_len he
  exact ⟨_, (Hold.row (z := 6) (p := (l.take i).flatMap Bk.dt) (q := (l.drop (i + 1)).flatMap Bk.dt) (by omega)).at_ h2.symm, fun u => by rw [bk_row l i u hi]⟩
/-- .. its count -/
theorem hold_bcnt {l : List Bk} {i b cap : Nat} (hi : i < l.length) : ∃ c, Hold c (.slice (some ⟨b, 0, none⟩) l.length cap) b (i * 6) ∧ ∀ w : Int, c [.raw (.int .i64 w)] = .row 6 ((l.set i ((blk l i).withC w)).flatMap Bk.dt) := by
  obtain ⟨_, h2⟩ := fm_split Bk.dt_len (blk_at hi)
  refine ⟨_, (Hold.row (z := 6) (p := (l.take i).flatMap Bk.dt) (q := (blk l i).tab.dt ++ (l.drop (i + 1)).flatMap Bk.dt) (by omega)).at_ h2.symm, fun w => ?_⟩
  rw [bk_row l i _ hi]
  simp only [Bk.dt, Bk.withC, List.cons_append, List.nil_append]
/-- .. its table -/
theorem hold_btab {l : List Bk} {i b cap : Nat} (hi : i < l.length) : ∃ c, Hold c (.slice (some ⟨b, 0, none⟩) l.length cap) b (i * 6 + 1) ∧ ∀ t : Tb, c t.dt = .row 6 ((l.set i ((blk l i).withT t)).flatMap Bk.dt) := by
  obtain ⟨_, h2⟩ := fm_split Bk.dt_len (blk_at hi)
  refine ⟨_, (Hold.row (z := 6) (p := (l.take i).flatMap Bk.dt ++ [.raw (.int .i64 (blk l i).count)]) (q := (l.drop (i + 1)).flatMap Bk.dt) (by omega)).at_ ?_, fun t => ?_⟩
  · rw [List.length_append, h2]
    rfl
  · rw [bk_row l i _ hi]
    simp only [Bk.dt, Bk.withT, List.append_assoc, List.cons_append, List.nil_append]
theorem set_blk {l : List Bk} {i : Nat} (hi : i < l.length) : l.set i (blk l i) = l := by
  have := blk_at hi
  rw [List.getElem?_eq_getElem hi] at this
  rw [← Option.some.inj this]
  exact List.set_getElem_self hi
theorem withC_self (u : Bk) : u.withC u.count = u := rfl
theorem withT_self (u : Bk) : u.withT u.tab = u := rfl
/-- the cells of a block that is written -/
theorem bk_zip (u : Bk) {x y : Value} (m : My h0 h ((.row 1 (u.tab.heads.flatMap idt), x) :: (.row 10 (u.tab.slots.flatMap Sl.dt), y) :: bag)) : My h0 h (u.dt.zip [.int .i64 u.count, .bool u.tab.hashed, x, y, .int .i64 u.tab.next, .int .i64 u.tab.count] ++ bag) := by
  simp only [Bk.dt_eq, List.zip_cons_cons, List.zip_nil_right, List.cons_append, List.nil_append, My.raw_iff, one_bool, one_int, and_self, true_and]
  exact ((m.raw (u := .int .i64 u.tab.count) rfl).raw (u := .int .i64 u.tab.next) rfl).fourth.fourth
/-- a block is written -/
theorem bk_store (hd : Hold c val b off) {t j : Nat} {u : Bk} {x y : Value} {z : List Dt} (ht : tyS P t = some (true, 6)) (hz : z.length = 6) (m : My h0 h ((.row 1 (u.tab.heads.flatMap idt), x) :: (.row 10 (u.tab.slots.flatMap Sl.dt), y) :: (c z, val) :: bag)) (hj : j = off) (k : ∀ h', My h0 h' ((c u.dt, val) :: bag) → K undef h') :
    HSem P (stI t (.pointer (some ⟨b, j, none⟩)) (.agg #[.int .i64 u.count, .bool u.tab.hashed, x, y, .int .i64 u.tab.next, .int .i64 u.tab.count])) h K :=
  hd.store (x := z) (es := u.dt) ht (bk_zip u m) hz (Bk.dt_len u) rfl hj k
end
/-- a heap in a variable, its blocks at hand -/
def HpB (l : List Bk) (a : Option Addr) (n bp : Nat) (R : Bag) : Bag := (.row 6 (l.flatMap Bk.dt), .slice a l.length n) :: (.ptr [] [.raw (.slice a l.length n)] [], .pointer (some ⟨bp, 0, none⟩)) :: R
end Go.Sx
namespace Go.Proofs.YtedfplodobpgfaaGreatDoor
set_option maxRecDepth 8000
open Go Go.Sx
/-- a heap made anew -/
def MadeH (h : Hp) (l : List Bk) (u : Value) (h' : Hp) : Prop := ∃ a c, u = .agg #[.slice a l.length c] ∧ My h h' [(.row 6 (l.flatMap Bk.dt), .slice a l.length c)]
set_option maxHeartbeats 800000 in
theorem iCopyHeap (l : List Bk) (hb : szG Bk.bulk l ≤ 1099511627776) (s : Value) (h : Hp) (r1 : RdB h l s) : ACalls Tryz.prog 90 #[.agg #[s]] h (MadeH h l) := by
  have hlen := szG_len (w := Bk.bulk) l
  obtain ⟨a1, c1, xs1, rfl, hc1, hr1, hat1⟩ := r1.rows (by decide) l.length (fm_len Bk.dt_len _)
  (refine enter Tryz.func90 rfl rfl (by kernel_rfl) [] ?_; simp only [go_sem, Nat.reduceBEq, Nat.reduceLeDiff])
  refine aloop (ι := Nat × Value) (fun x => [(10, .val (.int .i64 (x.1 : Nat))), (9, .val (.int .i64 (l.length : Nat))), (8, .val (.slice a1 l.length c1)), (3, .box 3 0), (2, .box 2 0)])
    (fun x => [(3, [x.2]), (2, [.slice none 0 0])])
    (fun x h' => x.1 ≤ l.length ∧ My h h' [(.row 6 ((l.take x.1).flatMap Bk.dt), x.2)]) (fun x => l.length - x.1) (0, .slice none 0 0)
    ⟨Nat.zero_le _, (My.nil (Ext.refl h)).nilrow⟩ (by repeat (first | exact wkF_e | refine wkF_c rfl ?_)) (wkB_c rfl (wkB_c rfl wkB_e)) rfl ?_
  rintro ⟨i, o⟩ h1 ⟨hi, m1⟩
  have hi : i ≤ l.length := hi
  have m1 : My h h1 [(.row 6 ((l.take i).flatMap Bk.dt), o)] := m1
  have htl : ((l.take i).flatMap Bk.dt).length = i * 6 := by rw [fm_len Bk.dt_len, List.length_take, Nat.min_eq_left hi]
  obtain ⟨ao, co, rfl, _⟩ := m1.row_shape (by decide) i htl
  try simp only [go_sem, Nat.reduceBEq]
  refine Br.intro (fun hq => ?_) (fun hq => ?_) <;> (try simp only [hq, go_sem, Nat.reduceBEq, Nat.reduceLeDiff])
  · have hq : i < l.length := by simpa using hq
    obtain ⟨b1, o1, rfl, hat1'⟩ := hat1 (by omega)
    obtain ⟨b, hbk, hm⟩ := get_lt hq
    have hsb := slots_bulk hbk
    have wsu := wrap_succ (i := i) (by omega)
    simp only [ix_nat hq, go_sem, Nat.reduceBEq]
    refine hsem_blk tyS107 (hat1'.mono m1.ext) (hr1.mono m1.ext) hbk rfl fun s2 u2 rh ru => ?_
    obtain ⟨a3, c3, xs3, rfl, hc3, hr3, hat3⟩ := rh.rows (by decide) b.tab.heads.length (fm_len idt_len _)
    obtain ⟨a2, c2, xs2, rfl, hc2, hr2, hat2⟩ := ru.rows (by decide) b.tab.slots.length (fm_len Sl.dt_len _)
    try simp only [go_sem, Nat.reduceBEq, Nat.reduceAdd, Nat.reduceLeDiff]
    refine regionD_intro (lb := [15, 17, 19]) (by kernel_rfl) ?_
    simp only [go_sem, Nat.reduceBEq, Nat.reduceAdd, Nat.reduceLeDiff]
    refine (copyTable_c b.tab (by omega) _ _ _ rh ru).mono ?_
    rintro _ h2 ⟨a4, c4, a5, c5, rfl, m2⟩
    simp only [go_sem, Nat.reduceBEq, Nat.reduceAdd, Nat.reduceLeDiff]
    have m3 := m1.add m2
    refine hsem_my_lit (h0 := h) (es := Bk.dt b) (parts := [(0, .agg #[.int .i64 b.count, .bool b.tab.hashed, .slice a4 b.tab.heads.length c4, .slice a5 b.tab.slots.length c5, .int .i64 b.tab.next, .int .i64 b.tab.count])]) slT58 (by decide) (by decide) (by decide) rfl rfl (by simp [Value.cells]) (bag := [(.row 6 ((l.take i).flatMap Bk.dt), .slice ao i co)]) ?_ rfl (Bk.dt_len b) fun l4 h4 m4 => ?_
    · simp only [flat, List.flatMap_cons, List.flatMap_nil, List.append_nil, cells_agg]
      exact bk_zip b m3
    simp only [go_sem, Nat.reduceBEq]
    refine hsem_my_append slT58 (by decide) rfl i 1 m4.swap htl (Bk.dt_len b) (by show (i + 1) * 80 ≤ _; omega) (by omega) fun l5 h5 m5 => ?_
    have m5 : My h h5 [(.row 6 ((l.take i).flatMap Bk.dt ++ Bk.dt b), l5)] := m5
    have e5 : (l.take i).flatMap Bk.dt ++ Bk.dt b = (l.take (i + 1)).flatMap Bk.dt := by rw [take_snoc hbk, List.flatMap_append, List.flatMap_cons, List.flatMap_nil, List.append_nil]
    rw [e5] at m5
    obtain ⟨a6, c6, rfl, _⟩ := m5.row_shape (by decide) (i + 1) (by rw [fm_len Bk.dt_len, List.length_take, Nat.min_eq_left hq])
    simp only [wsu, go_sem, Nat.reduceBEq, Nat.reduceLeDiff]
    exact Again.intro (i + 1, .slice a6 (i + 1) c6) (by first | omega | (simp only; omega)) ⟨hq, m5⟩ (by repeat (first | exact wkF_e | refine wkF_c rfl ?_)) (wkB_c rfl (wkB_c rfl wkB_e)) rfl
  · have hq : i = l.length := by simp at hq; omega
    subst hq
    rw [List.take_length] at m1
    try simp only [go_sem, Nat.reduceBEq, Nat.reduceAdd, Nat.reduceLeDiff, Nat.reduceEqDiff, Int.reduceEq, not_false_eq_true, Int.reduceToNat]
    exact ⟨_, _, rfl, m1⟩
set_option maxHeartbeats 800000 in
theorem sCopyHeap (l : List Bk) (hb : szG Bk.bulk l ≤ 1099511627776) (s : Value) (h : Hp) (r1 : RdB h l s) : ACalls Tryz.prog 88 #[.agg #[s]] h (MadeH h l) := by
  have hlen := szG_len (w := Bk.bulk) l
  obtain ⟨a1, c1, xs1, rfl, hc1, hr1, hat1⟩ := r1.rows (by decide) l.length (fm_len Bk.dt_len _)
  (refine enter Tryz.func88 rfl rfl (by kernel_rfl) [] ?_; simp only [go_sem, Nat.reduceBEq, Nat.reduceLeDiff])
  refine aloop (ι := Nat × Value) (fun x => [(4, .val (.int .i64 (x.1 : Nat))), (1, .box 1 0), (3, .box 3 0), (2, .box 2 0)])
    (fun x => [(1, [.slice a1 l.length c1]), (3, [x.2]), (2, [.slice none 0 0])])
    (fun x h' => x.1 ≤ l.length ∧ My h h' [(.row 6 ((l.take x.1).flatMap Bk.dt), x.2)]) (fun x => l.length - x.1) (0, .slice none 0 0)
    ⟨Nat.zero_le _, (My.nil (Ext.refl h)).nilrow⟩ (by repeat (first | exact wkF_e | refine wkF_c rfl ?_)) (wkB_c rfl (wkB_c rfl (wkB_c rfl wkB_e))) rfl ?_
  rintro ⟨i, o⟩ h1 ⟨hi, m1⟩
  have hi : i ≤ l.length := hi
  have m1 : My h h1 [(.row 6 ((l.take i).flatMap Bk.dt), o)] := m1
  have htl : ((l.take i).flatMap Bk.dt).length = i * 6 := by rw [fm_len Bk.dt_len, List.length_take, Nat.min_eq_left hi]
  obtain ⟨ao, co, rfl, _⟩ := m1.row_shape (by decide) i htl
  try simp only [go_sem, Nat.reduceBEq]
  refine Br.intro (fun hq => ?_) (fun hq => ?_) <;> (try simp only [hq, go_sem, Nat.reduceBEq, Nat.reduceLeDiff])
  · have hq : i < l.length := by simpa using hq
    obtain ⟨b1, o1, rfl, hat1'⟩ := hat1 (by omega)
    obtain ⟨b, hbk, hm⟩ := get_lt hq
    have hsb := slots_bulk hbk
    have wsu := wrap_succ (i := i) (by omega)
    refine regionD_still (lb := [14, 16, 22]) (pl := [20]) h m1.ext (by kernel_rfl) ?_
    simp only [ix_nat hq, go_sem, Nat.reduceBEq]
    refine hsem_bcnt tyS3 hat1' hr1 hbk rfl ?_
    simp only [ix_nat hq, go_sem, Nat.reduceBEq]
    refine hsem_btab tyS36 (hat1'.mono m1.ext) (hr1.mono m1.ext) hbk (by omega) fun s2 u2 rh ru => ?_
    simp only [go_sem, Nat.reduceBEq]
    refine (l7Copy_c b.tab (by omega) _ _ _ rh ru).mono ?_
    rintro _ h2 ⟨a4, c4, a5, c5, rfl, m2⟩
    simp only [go_sem, Nat.reduceBEq, Nat.reduceAdd, Nat.reduceLeDiff]
    refine ⟨m1.ext.trans m2.ext, ?_⟩
    have m3 := m1.add m2
    refine hsem_my_lit (h0 := h) (es := Bk.dt b) (parts := [(0, .agg #[.int .i64 b.count, .bool b.tab.hashed, .slice a4 b.tab.heads.length c4, .slice a5 b.tab.slots.length c5, .int .i64 b.tab.next, .int .i64 b.tab.count])]) slT58 (by decide) (by decide) (by decide) rfl rfl (by simp [Value.cells]) (bag := [(.row 6 ((l.take i).flatMap Bk.dt), .slice ao i co)]) ?_ rfl (Bk.dt_len b) fun l4 h4 m4 => ?_
    · simp only [flat, List.flatMap_cons, List.flatMap_nil, List.append_nil, cells_agg]
      exact bk_zip b m3
    simp only [go_sem, Nat.reduceBEq]
    refine ⟨m4.ext, ?_⟩
    refine hsem_my_append slT58 (by decide) rfl i 1 m4.swap htl (Bk.dt_len b) (by show (i + 1) * 80 ≤ _; omega) (by omega) fun l5 h5 m5 => ?_
    have m5 : My h h5 [(.row 6 ((l.take i).flatMap Bk.dt ++ Bk.dt b), l5)] := m5
    have e5 : (l.take i).flatMap Bk.dt ++ Bk.dt b = (l.take (i + 1)).flatMap Bk.dt := by rw [take_snoc hbk, List.flatMap_append, List.flatMap_cons, List.flatMap_nil, List.append_nil]
    rw [e5] at m5
    obtain ⟨a6, c6, rfl, _⟩ := m5.row_shape (by decide) (i + 1) (by rw [fm_len Bk.dt_len, List.length_take, Nat.min_eq_left hq])
    simp only [wsu, go_sem, Nat.reduceBEq, Nat.reduceLeDiff]
    refine ⟨m5.ext, ?_⟩
    try simp only [wsu, go_sem, Nat.reduceBEq, Nat.reduceAdd, Nat.reduceLeDiff, Nat.reduceEqDiff, Int.reduceEq, not_false_eq_true, Int.reduceToNat]
    exact Again.intro (i + 1, .slice a6 (i + 1) c6) (by first | omega | (simp only; omega)) ⟨hq, m5⟩ (by repeat (first | exact wkF_e | refine wkF_c rfl ?_)) (wkB_c rfl (wkB_c rfl (wkB_c rfl wkB_e))) rfl
  · have hq : i = l.length := by simp at hq; omega
    subst hq
    rw [List.take_length] at m1
    try simp only [go_sem, Nat.reduceBEq, Nat.reduceAdd, Nat.reduceLeDiff, Nat.reduceEqDiff, Int.reduceEq, not_false_eq_true, Int.reduceToNat]
    exact ⟨_, _, rfl, m1⟩
end Go.Proofs.YtedfplodobpgfaaGreatDoor
/-! A heap in a variable: a count is read or written, a block is opened. -/
namespace Go.Sx
open Go
section
variable {P : Program} {h0 h : Hp} {K : Value → Hp → Prop} {bag : Bag} {l : List Bk} {b cap i j t : Nat}
theorem bcnt_hold (hi : i < l.length) (m : My h0 h ((.row 6 (l.flatMap Bk.dt), .slice (some ⟨b, 0, none⟩) l.length cap) :: bag)) :
    ∃ c, Hold c (.slice (some ⟨b, 0, none⟩) l.length cap) b (i * 6) ∧ (∀ w : Int, c [.raw (.int .i64 w)] = .row 6 ((l.set i ((blk l i).withC w)).flatMap Bk.dt)) ∧ My h0 h ((c [.raw (.int .i64 (blk l i).count)], .slice (some ⟨b, 0, none⟩) l.length cap) :: bag) := by
  obtain ⟨c, hd, hc⟩ := hold_bcnt (l := l) (b := b) (cap := cap) hi
  refine ⟨c, hd, hc, ?_⟩
  rw [hc, withC_self, set_blk hi]
  exact m
theorem bcnt_ld (hi : i < l.length) (ht : tyS P t = some (false, 1)) (m : My h0 h ((.row 6 (l.flatMap Bk.dt), .slice (some ⟨b, 0, none⟩) l.length cap) :: bag)) (hj : j = i * 6) (k : K (.int .i64 (blk l i).count) h) : HPure P (ldI t (.pointer (some ⟨b, j, none⟩))) h K := by
  obtain ⟨c, hd, hc, m2⟩ := bcnt_hold hi m
  exact hd.ld1 (i := 0) ht m2 rfl (by omega) k
theorem bcnt_st (w : Int) (hi : i < l.length) (ht : tyS P t = some (false, 1)) (m : My h0 h ((.row 6 (l.flatMap Bk.dt), .slice (some ⟨b, 0, none⟩) l.length cap) :: bag)) (hj : j = i * 6)
    (k : ∀ h', My h0 h' ((.row 6 ((l.set i ((blk l i).withC w)).flatMap Bk.dt), .slice (some ⟨b, 0, none⟩) l.length cap) :: bag) → K undef h') : HSem P (stI t (.pointer (some ⟨b, j, none⟩)) (.int .i64 w)) h K := by
  obtain ⟨c, hd, hc, m2⟩ := bcnt_hold hi m
  exact hd.put1 ht rfl rfl m2 hj fun h' m3 => k h' (by rw [hc] at m3; exact m3)
/-- the cells of a block, bare -/
def bkraws (u : Bk) (x y : Value) : List Dt := [.raw (.int .i64 u.count), .raw (.bool u.tab.hashed), .raw x, .raw y, .raw (.int .i64 u.tab.next), .raw (.int .i64 u.tab.count)]
/-- a block is opened: its rows are taken out -/
theorem bk_open (hi : i < l.length) (m : My h0 h ((.row 6 (l.flatMap Bk.dt), .slice (some ⟨b, 0, none⟩) l.length cap) :: bag)) :
    ∃ c a n a' n', Hold c (.slice (some ⟨b, 0, none⟩) l.length cap) b (i * 6) ∧ (∀ u : Bk, c u.dt = .row 6 ((l.set i u).flatMap Bk.dt)) ∧
      My h0 h ((.row 1 ((blk l i).tab.heads.flatMap idt), .slice a (blk l i).tab.heads.length n) :: (.row 10 ((blk l i).tab.slots.flatMap Sl.dt), .slice a' (blk l i).tab.slots.length n') :: (c (bkraws (blk l i) (.slice a (blk l i).tab.heads.length n) (.slice a' (blk l i).tab.slots.length n')), .slice (some ⟨b, 0, none⟩) l.length cap) :: bag) := by
  obtain ⟨c, hd, hc⟩ := hold_bk (l := l) (b := b) (cap := cap) hi
  have e : [Dt.raw (.int .i64 (blk l i).count)] ++ ((blk l i).tab.dt ++ []) = (blk l i).dt := by
    rw [List.append_nil]
    rfl
  have m1 : My h0 h ((c ([Dt.raw (.int .i64 (blk l i).count)] ++ ((blk l i).tab.dt ++ [])), .slice (some ⟨b, 0, none⟩) l.length cap) :: bag) := by
    rw [e, hc, set_blk hi]
    exact m
  have hs := hd.sub [.raw (.int .i64 (blk l i).count)] []
  obtain ⟨a, n, a', n', m2⟩ := tb_open hs (t := (blk l i).tab) m1
  exact ⟨c, a, n, a', n', hd, hc, m2⟩
end
theorem shareH_other {l : List Bk} {v : V} (h : ¬ v.kind = 5) : shareH l v = l := if_neg h
theorem shareH_this {l : List Bk} {v : V} (h : v.kind = 5) : shareH l v = l.set v.num.toNat ((blk l v.num.toNat).withC ((blk l v.num.toNat).count + 1)) := if_pos h
theorem dropF_other {f : Nat} {l : List Bk} {v : V} (h : ¬ v.kind = 5) : dropF (f + 1) l v = l := by rw [dropF, if_neg h]
theorem dropF_keep {f : Nat} {l : List Bk} {v : V} (h : v.kind = 5) (k : 0 < (blk l v.num.toNat).count - 1) : dropF (f + 1) l v = l.set v.num.toNat ((blk l v.num.toNat).withC ((blk l v.num.toNat).count - 1)) := by rw [dropF, if_pos h, if_pos k]
theorem dropF_gone {f : Nat} {l : List Bk} {v : V} (h : v.kind = 5) (k : ¬ 0 < (blk l v.num.toNat).count - 1) : dropF (f + 1) l v = dropS (dropF f) (l.set v.num.toNat bk0) (blk l v.num.toNat).tab.slots := by rw [dropF, if_pos h, if_neg k]
theorem counted_parts {l : List Bk} {rs : List V} (h : countedB l rs = true) : heapB l = true ∧ ∀ v ∈ rs, isHeld l v = true := by
  unfold countedB allHeld at h
  rw [Bool.and_eq_true, Bool.and_eq_true, List.all_eq_true] at h
  exact ⟨h.1, h.2.1⟩
end Go.Sx
namespace Go.Proofs.YtedfplodobpgfaaGreatDoor
set_option maxRecDepth 8000
open Go Go.Sx
/-- no result; a heap in a variable -/
def HpW (h0 : Hp) (l : List Bk) (a : Option Addr) (n bp : Nat) (R : Bag) (u : Value) (h' : Hp) : Prop := u = .tuple #[] ∧ My h0 h' (HpB l a n bp R)
/-- a value; a heap in a variable -/
def HpV (h0 : Hp) (w : Value) (l : List Bk) (a : Option Addr) (n bp : Nat) (R : Bag) (u : Value) (h' : Hp) : Prop := u = w ∧ My h0 h' (HpB l a n bp R)
theorem iShare (l : List Bk) (v : V) (hr : refIn l.length v) (hc : v.kind = 5 → 0 ≤ (blk l v.num.toNat).count ∧ (blk l v.num.toNat).count ≤ 4611686018427387904) (av : Option Addr) (nv cv : Nat) (a : Option Addr) (n bp : Nat) (R : Bag) (h0 h : Hp) (my : My h0 h (HpB l a n bp R)) : ACalls Tryz.prog 91 #[.pointer (some ⟨bp, 0, none⟩), .agg #[.int .i64 v.kind, .int .i64 v.num, .string v.str, .int .i64 v.next, .slice av nv cv]] h (HpW h0 (shareH l v) a n bp R) := by
  (refine enter Tryz.func91 rfl rfl (by kernel_rfl) [] ?_; simp only [go_sem, Nat.reduceBEq])
  by_cases h5 : v.kind = 5
  case neg =>
    simp only [decide_eq_false h5, go_sem]
    exact ⟨rfl, by rw [shareH_other h5]; exact my⟩
  obtain ⟨q1, q2⟩ := hr h5
  obtain ⟨w1, w2⟩ := hc h5
  have hw : IntKind.i64.wrap ((blk l v.num.toNat).count + 1) = (blk l v.num.toNat).count + 1 := IntWalk.i64_in _ (by omega)
  have my : My h0 h ((.row 6 (l.flatMap Bk.dt), .slice a l.length n) :: (.ptr [] [.raw (.slice a l.length n)] [], .pointer (some ⟨bp, 0, none⟩)) :: R) := my
  obtain ⟨_, _, es, _, _, hat⟩ := my.row_shape (by decide) l.length (fm_len Bk.dt_len _)
  cases es
  obtain ⟨b, rfl⟩ := hat (by omega)
  simp only [decide_eq_true h5, go_sem]
  refine regionD_intro (lb := [12]) (by kernel_rfl) ?_
  simp only [go_sem, Nat.reduceBEq]
  refine Hold.ld1 (i := 0) Hold.ptr tyS58 my.swap rfl rfl ?_
  simp only [ix_int q1 q2, go_sem, Nat.reduceBEq]
  refine bcnt_ld q2 tyS3 my (by omega) ?_
  simp only [ix_int q1 q2, hw, go_sem, Nat.reduceBEq]
  refine bcnt_st _ q2 tyS3 my (by omega) fun h2 m2 => ?_
  try simp only [go_sem]
  refine ⟨rfl, ?_⟩
  unfold HpB
  rw [shareH_len, shareH_this h5]
  exact m2
theorem sShare (l : List Bk) (v : V) (hr : refIn l.length v) (hc : v.kind = 5 → 0 ≤ (blk l v.num.toNat).count ∧ (blk l v.num.toNat).count ≤ 4611686018427387904) (av : Option Addr) (nv cv : Nat) (a : Option Addr) (n bp : Nat) (R : Bag) (h0 h : Hp) (my : My h0 h (HpB l a n bp R)) : ACalls Tryz.prog 89 #[.pointer (some ⟨bp, 0, none⟩), .agg #[.int .i64 v.kind, .int .i64 v.num, .string v.str, .int .i64 v.next, .slice av nv cv]] h (HpV h0 (.agg #[.int .i64 v.kind, .int .i64 v.num, .string v.str, .int .i64 v.next, .slice av nv cv]) (shareH l v) a n bp R) := by
  (refine enter Tryz.func89 rfl rfl (by kernel_rfl) [] ?_; simp only [go_sem, Nat.reduceBEq])
  by_cases h5 : v.kind = 5
  case neg =>
    simp only [decide_eq_false h5, go_sem, Nat.reduceBEq, Nat.reduceAdd, Nat.reduceLeDiff]
    exact ⟨rfl, by rw [shareH_other h5]; exact my⟩
  obtain ⟨q1, q2⟩ := hr h5
  obtain ⟨w1, w2⟩ := hc h5
  have hw : IntKind.i64.wrap ((blk l v.num.toNat).count + 1) = (blk l v.num.toNat).count + 1 := IntWalk.i64_in _ (by omega)
  have my : My h0 h ((.row 6 (l.flatMap Bk.dt), .slice a l.length n) :: (.ptr [] [.raw (.slice a l.length n)] [], .pointer (some ⟨bp, 0, none⟩)) :: R) := my
  obtain ⟨_, _, es, _, _, hat⟩ := my.row_shape (by decide) l.length (fm_len Bk.dt_len _)
  cases es
  obtain ⟨b, rfl⟩ := hat (by omega)
  simp only [decide_eq_true h5, go_sem]
  refine regionD_intro (lb := [13, 19]) (by kernel_rfl) ?_
  simp only [go_sem, Nat.reduceBEq]
  refine Hold.ld1 (i := 0) Hold.ptr tyS58 my.swap rfl rfl ?_
  simp only [go_sem, Nat.reduceBEq]
  refine Hold.ld1 (i := 0) Hold.ptr tyS58 my.swap rfl rfl ?_
  simp only [ix_int q1 q2, go_sem, Nat.reduceBEq]
  refine bcnt_ld q2 tyS3 my (by omega) ?_
  simp only [ix_int q1 q2, hw, go_sem, Nat.reduceBEq]
  refine bcnt_st _ q2 tyS3 my (by omega) fun h2 m2 => ?_
  try simp only [go_sem, Nat.reduceBEq, Nat.reduceAdd, Nat.reduceLeDiff]
  refine ⟨rfl, ?_⟩
  unfold HpB
  rw [shareH_len, shareH_this h5]
  exact m2
end Go.Proofs.YtedfplodobpgfaaGreatDoor
/-! Arrays with an entry dropped or set. -/
namespace Go.Sx
open Go
namespace V
def withItems (v : V) (es : List (Ky × V)) : V := ⟨v.kind, v.num, v.str, v.next, es⟩
def setAt (v : V) (i : Nat) (x : V) : V := match v.items[i]? with
  | none => v
  | some e => v.withItems (v.items.take i ++ (e.1, x) :: v.items.drop (i + 1))
def setKey (v : V) (k : Ky) (x : V) : V := match v.find k with
  | some i => v.setAt i x
  | none => ⟨v.kind, v.num, v.str, if k.text then v.next else max v.next (IntKind.i64.wrap (k.num + 1)), v.items ++ [(k, x)]⟩
theorem withItems_items {v : V} {es : List (Ky × V)} : (v.withItems es).items = es := (rfl)
end V
end Go.Sx
